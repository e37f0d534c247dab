/-
  The layers of a closed strip: the plain words, and contracts of StripAt, PlaceOf and LayersOf.
  By an AI agent.
-/
import Derived.Test.YtjkcmjnejbobeaaAbove
import Derived.Test.YtjkcmjnejbobeaaInts
import Derived.WalkSmall
namespace Go.Proofs.Ytjkcmjnejbobeaa
open Go.ChangeShapes Go.WideShapes Go.ChangeAt Go.RowKit
set_option maxRecDepth 100000
set_option linter.unusedVariables false

theorem letters {s : ByteArray} (h : isStripB s = true) {k : Nat} (hk : k < s.size) : s[k] = 100 ∨ s[k] = 102 := by
  by_cases a : s[k] = 100
  · exact .inl a
  · by_cases b : s[k] = 102
    · exact .inr b
    · have := cnt_gap hk a b s.size hk (Nat.le_refl _)
      have h1 := (isStrip_iff.1 h).1
      unfold dN fN at h1
      omega
theorem strip_sum {s : ByteArray} (h : isStripB s = true) {k : Nat} (hk : k ≤ s.size) : cnt s 100 k + cnt s 102 k = k := by
  induction k with
  | zero => rw [cnt_zero, cnt_zero]
  | succ k ih =>
    have := ih (by omega)
    rcases letters h (show k < s.size by omega) with a | a
    · rw [cnt_yes (by omega) a, cnt_no (by omega) (by rw [a]; decide)]; omega
    · rw [cnt_no (by omega) (by rw [a]; decide), cnt_yes (by omega) a]; omega
theorem cnt_mono (s : ByteArray) (c : UInt8) {k n : Nat} (h : k ≤ n) (hn : n ≤ s.size) : cnt s c k ≤ cnt s c n := by
  induction n with
  | zero => have : k = 0 := by omega
            subst this; exact Nat.le_refl _
  | succ n ih =>
    by_cases e : k = n + 1
    · subst e; exact Nat.le_refl _
    · have := ih (by omega) (by omega)
      by_cases a : s[n] = c
      · rw [cnt_yes (by omega) a]; omega
      · rw [cnt_no (by omega) a]; omega
/-- The place of the strip behind k steps, closed. -/
def pos (s : ByteArray) (k : Nat) : Int := (cnt s 102 k : Nat) + ((dN s : Nat) - ((k : Int) - (cnt s 102 k : Nat)))
theorem strip_size {s : ByteArray} (h : isStripB s = true) : 2 ≤ s.size ∧ s.size ≤ 16 ∧ dN s + fN s = s.size ∧ 1 ≤ dN s ∧ dN s ≤ 8 ∧ 1 ≤ fN s ∧ fN s ≤ 8 := by
  obtain ⟨a, b, c, d, e⟩ := isStrip_iff.1 h; omega
theorem pos_bd {s : ByteArray} (h : isStripB s = true) {k : Nat} (hk : k ≤ s.size) : 0 ≤ pos s k ∧ pos s k ≤ s.size := by
  have h1 := strip_sum h hk
  have h2 := cnt_mono s 100 hk (Nat.le_refl _)
  have h3 := cnt_mono s 102 hk (Nat.le_refl _)
  obtain ⟨_, _, h4, _⟩ := strip_size h
  unfold pos
  unfold dN fN at *
  omega
theorem pos_zero (s : ByteArray) : pos s 0 = (dN s : Nat) := by unfold pos; rw [cnt_zero]; simp
theorem pos_d {s : ByteArray} {k : Nat} (hk : k < s.size) (a : s[k] = 100) : pos s (k + 1) = pos s k - 1 := by
  unfold pos; rw [cnt_no hk (by rw [a]; decide)]; push_cast; omega
theorem pos_f {s : ByteArray} {k : Nat} (hk : k < s.size) (a : s[k] = 102) : pos s (k + 1) = pos s k + 1 := by
  unfold pos; rw [cnt_yes hk a]; push_cast; omega
/-- The cell that step k lies over. -/
def li (s : ByteArray) (k : Nat) : Nat := if pos s (k + 1) < pos s k then (pos s (k + 1)).toNat else (pos s k).toNat
theorem li_d {s : ByteArray} (h : isStripB s = true) {k : Nat} (hk : k < s.size) (a : s[k] = 100) : (li s k : Int) = pos s k - 1 ∧ li s k < s.size := by
  have h1 := pos_bd h (show k + 1 ≤ s.size by omega)
  have h0 := pos_bd h (show k ≤ s.size by omega)
  have h2 := pos_d hk a
  unfold li
  rw [if_pos (by omega)]
  omega
theorem li_f {s : ByteArray} (h : isStripB s = true) {k : Nat} (hk : k < s.size) (a : s[k] = 102) : (li s k : Int) = pos s k ∧ li s k < s.size := by
  have h1 := pos_bd h (show k + 1 ≤ s.size by omega)
  have h0 := pos_bd h (show k ≤ s.size by omega)
  have h2 := pos_f hk a
  unfold li
  rw [if_neg (by omega)]
  omega
/-- How many of the first k steps lie over cell i. -/
def lay (s : ByteArray) : Nat → Nat → Int
  | 0, _ => 0
  | k + 1, i => lay s k i + if i = li s k then 1 else 0
theorem lay_bd (s : ByteArray) (k i : Nat) : 0 ≤ lay s k i ∧ lay s k i ≤ k := by
  induction k with
  | zero => exact ⟨Int.le_refl _, Int.le_refl _⟩
  | succ k ih =>
    show 0 ≤ lay s k i + _ ∧ lay s k i + _ ≤ _
    split <;> push_cast <;> omega
def lc (s : ByteArray) (k i : Nat) : Value := .int .i64 (lay s k i)
theorem lc_set {w : World} {g N k i : Nat} {s : ByteArray} {x : Int} (h : Row w g N (lc s k)) (hi : i = li s k) (hx : x = lay s k i + 1) : Row (w.setCell ⟨g, i, none⟩ (.int .i64 x)) g N (lc s (k + 1)) := by
  refine (h.set i _).congr fun j _ => ?_
  show _ = Value.int .i64 (lay s k j + _)
  subst hx
  by_cases e : j = i
  · rw [if_pos e, if_pos (by rw [e]; exact hi), e]
  · rw [if_neg e, if_neg (by rw [← hi]; exact e)]
    show Value.int .i64 (lay s k j) = _
    rw [Int.add_zero]
/-- The greatest of the first k numbers (-1: there are none), as Go's max spells it. -/
def mx (f : Nat → Int) : Nat → Int
  | 0 => -1
  | k + 1 => if mx f k < f k then f k else mx f k
theorem mx_yes {f : Nat → Int} {k : Nat} (h : mx f k < f k) : mx f (k + 1) = f k := by show (if _ then _ else _) = _; rw [if_pos h]
theorem mx_no {f : Nat → Int} {k : Nat} (h : ¬ mx f k < f k) : mx f (k + 1) = mx f k := by show (if _ then _ else _) = _; rw [if_neg h]
theorem mx_one {f : Nat → Int} (h : 0 ≤ f 0) : mx f 1 = f 0 := mx_yes (by show (-1 : Int) < _; omega)
theorem mx_bd {f : Nat → Int} {M : Int} (hM : -1 ≤ M) (h : ∀ i, 0 ≤ f i ∧ f i ≤ M) (k : Nat) : -1 ≤ mx f k ∧ mx f k ≤ M ∧ (1 ≤ k → 0 ≤ mx f k) := by
  induction k with
  | zero => exact ⟨Int.le_refl _, hM, fun h => absurd h (by omega)⟩
  | succ k ih =>
    have := h k
    by_cases e : mx f k < f k
    · rw [mx_yes e]; exact ⟨by omega, by omega, fun _ => by omega⟩
    · rw [mx_no e]; exact ⟨by omega, by omega, fun _ => by omega⟩
def thick (s : ByteArray) : Int := if isStripB s = true then mx (lay s s.size) s.size else -1
theorem thick_bd (s : ByteArray) : -1 ≤ thick s ∧ thick s ≤ 16 ∧ (isStripB s = true → 0 ≤ thick s) := by
  unfold thick
  by_cases h : isStripB s = true
  · rw [if_pos h]
    obtain ⟨a, b, _⟩ := strip_size h
    have := mx_bd (f := lay s s.size) (M := 16) (by omega) (fun i => by have := lay_bd s s.size i; omega) s.size
    exact ⟨this.1, this.2.1, fun _ => this.2.2 (by omega)⟩
  · rw [if_neg h]; exact ⟨by omega, by omega, fun h' => absurd h' h⟩

/-! ### The contracts -/
theorem stripAt_any (s : ByteArray) (k : Nat) (w : World) (hb : isStripB s = true) (hk : k ≤ s.size) :
    Calls Try.prog 80 #[.string s, .int .i64 k] w fun e w' => e = .returned (.tuple #[.int .i64 (cnt s 102 k : Nat), .int .i64 ((k : Int) - (cnt s 102 k : Nat)), .bool true]) ∧ w = w' := by
  have hs := strip_size hb
  have hs1 : s.size ≤ 1048576 := by omega
  have hc := cnt_le s 102 k
  have HB := Lib.hid hb
  clear hb hs
  go_enter Try.func80, Try.ntmps80
  go_wp2_with (first | (go_at_call 66; refine (iIsStrip_any _ _ hs1).mono ?_; rw [HB.out]; rintro e w' ⟨rfl, rfl⟩) | (go_at_call 83; refine (forwards_any _ _ _ hs1 hk).mono ?_; rintro e w' ⟨rfl, rfl⟩) | (go_at_call 41; (first | refine (within_t _ _ _ _ (by omega) (by omega)).mono ?_ | refine (within_f _ _ _ _ (by omega)).mono ?_); rintro e w' ⟨rfl, rfl⟩))
  go_ret3
  exact ⟨rfl, rfl⟩
theorem placeOf_any (s : ByteArray) (k : Nat) (w : World) (hb : isStripB s = true) (hk : k ≤ s.size) :
    Calls Try.prog 75 #[.string s, .int .i64 k, .int .i64 0] w fun e w' => e = .returned (.tuple #[.int .i64 (pos s k), .int .i64 0, .bool true]) ∧ w = w' := by
  have hs := strip_size hb
  have hs1 : s.size ≤ 1048576 := by omega
  have hc := cnt_le s 102 k
  have hd := downOf_d hb
  have HP : Hid (pos s k = (cnt s 102 k : Nat) + ((dN s : Nat) - ((k : Int) - (cnt s 102 k : Nat)))) := Lib.hid rfl
  have hdn : dN s ≤ 8 := by omega
  have HD := Lib.hid hd
  have HB := Lib.hid hb
  clear hb hs hd
  generalize dN s = D at *
  go_enter Try.func75, Try.ntmps75
  go_wp2_with (first | (go_at_call 80; refine (stripAt_any _ _ _ HB.out hk).mono ?_; rintro e w' ⟨rfl, rfl⟩) | (go_at_call 63; refine (iDownOf_any _ _ hs1).mono ?_; rw [HD.out]; rintro e w' ⟨rfl, rfl⟩) | (go_at_call 41; (first | refine (within_t _ _ _ _ (by omega) (by omega)).mono ?_ | refine (within_f _ _ _ _ (by omega)).mono ?_); rintro e w' ⟨rfl, rfl⟩))
  go_ret3
  exact ⟨by rw [HP.out]; rfl, rfl⟩
theorem lay_new (w : World) (s : ByteArray) {w1 : World} {B n : Nat} {g : Nat} (own1 : w1.ownsRow B 3 1 (.slice (some ⟨g, 0, none⟩) n n) n (madeCells (Value.int .i64 0).cells (n * 1)).toList) : Row w1 g n (lc s 0) :=
  ((Row.of_owns own1).mono (M := n) (by omega)).congr fun j hj => by
    rw [made_at _ _ _ (by omega)]
    simp [Value.cells, Nat.mod_one, lc, lay]
def LayP (s : ByteArray) (w : World) (e : Ending) (w' : World) : Prop := ∃ g, e = .returned (.slice (some ⟨g, 0, none⟩) s.size s.size) ∧ w.heap.size ≤ g ∧ Row w' g s.size (lc s s.size) ∧ Below w.heap.size w w'
set_option maxHeartbeats 1000000 in
theorem iLayersOf_any (s : ByteArray) (w : World) (hb : isStripB s = true) :
    Calls Try.prog 68 #[.string s] w (LayP s w) := by
  have hs := strip_size hb
  have hs1 : s.size ≤ 1048576 := by omega
  have HB := Lib.hid hb
  obtain ⟨i0, hi0, hz0, hz1, hz2⟩ := info_parts infoInt
  clear hb
  go_enter Try.func68, Try.ntmps68
  go_wp2_with (first | (go_at_call 66; refine (iIsStrip_any _ _ hs1).mono ?_; rw [HB.out]; rintro e w' ⟨rfl, rfl⟩) | (at_make; refine wpList_make_full _ rfl _ _ 27 rfl w.heap.size 3 i0 _ 1 Try.underlying27 hi0 hz0 hz1 .i64 .i64 s.size s.size s.size rfl rfl rfl rfl (by rw [hz2]; omega) (by unfold maxLen; omega) (Nat.le_refl _) ?_; intro w1 own1 gr1))
  have R0 := lay_new w s own1
  have B0 : Below w.heap.size w w1 := (Below.refl _ _).grown gr1 (Nat.le_refl _) (by simp)
  clear own1 gr1
  go_loopw [19] (fun i wr => ∃ k : Nat, k ≤ s.size ∧ i = .int .i64 k ∧ Row wr w.heap.size s.size (lc s k) ∧ Below w.heap.size w wr) (fun i _ => s.size - (intOf i).toNat)
  case atStart => exact ⟨0, Nat.zero_le _, rfl, R0, B0⟩
  case round =>
    obtain ⟨k, hk, rfl, hR, hBr⟩ := hrel
    have HR := Lib.hid hR
    have HBr := Lib.hid hBr
    clear hR hBr
    by_cases hlt : k < s.size
    · have hp0 := pos_bd HB.out (show k ≤ s.size by omega)
      have hp1 := pos_bd HB.out (show k + 1 ≤ s.size by omega)
      have hlb := lay_bd s k (li s k)
      have HSET : Hid (Row (wr.setCell ⟨w.heap.size, li s k, none⟩ (.int .i64 (lay s k (li s k) + 1))) w.heap.size s.size (lc s (k + 1))) := Lib.hid (lc_set HR.out rfl rfl)
      have hlil : li s k < s.size := by
        rcases letters HB.out hlt with a | a
        · exact (li_d HB.out hlt a).2
        · exact (li_f HB.out hlt a).2
      have d0 := HR.out.cell hlil
      unfold lc at d0
      have f0 := HR.out.frozen (li s k)
      have hcs : (pos s (k + 1) < pos s k ∧ pos s (k + 1) = (li s k : Int)) ∨ (¬ pos s (k + 1) < pos s k ∧ pos s k = (li s k : Int)) := by
        unfold li; split <;> omega
      generalize li s k = i at *
      generalize lay s k i = q at *
      have KE : Hid (((k : Int) + 1) = ((k + 1 : Nat) : Int)) := Lib.hid (by omega)
      rcases hcs with ⟨hc, he⟩ | ⟨hc, he⟩
      · have HE := Lib.hid he
        have hc' : (i : Int) < pos s k := by omega
        clear he hc
        go_wp2_with fail
        refine (placeOf_any s k _ HB.out (by omega)).mono ?_
        rintro e w' ⟨rfl, rfl⟩
        go_wp2_with fail
        rw [KE.out]
        refine (placeOf_any s (k + 1) _ HB.out (by omega)).mono ?_
        rw [HE.out]
        rintro e w' ⟨rfl, rfl⟩
        go_wp2_with fail
        go_roundw
        case rel => exact ⟨k + 1, by omega, by go_num, HSET.out, HBr.out.setCell (Nat.le_refl _) _⟩
        case measure => simp [intOf]; omega
      · have HE := Lib.hid he
        have hc' : (i : Int) ≤ pos s (k + 1) := by omega
        clear he hc
        go_wp2_with fail
        refine (placeOf_any s k _ HB.out (by omega)).mono ?_
        rw [HE.out]
        rintro e w' ⟨rfl, rfl⟩
        go_wp2_with fail
        rw [KE.out]
        refine (placeOf_any s (k + 1) _ HB.out (by omega)).mono ?_
        rintro e w' ⟨rfl, rfl⟩
        go_wp2_with fail
        go_roundw
        case rel => exact ⟨k + 1, by omega, by go_num, HSET.out, HBr.out.setCell (Nat.le_refl _) _⟩
        case measure => simp [intOf]; omega
    · have hk' : k = s.size := by omega
      subst hk'
      go_wp2
      go_ret
      exact ⟨_, rfl, Nat.le_refl _, HR.out, HBr.out⟩
end Go.Proofs.Ytjkcmjnejbobeaa
