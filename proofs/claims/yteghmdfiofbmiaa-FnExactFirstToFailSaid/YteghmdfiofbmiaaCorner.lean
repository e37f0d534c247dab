/-
  Corners and folds of a strip: contracts of isCorner, CornersOf and CountFolds in the program and in the reference.
  By an AI agent.
-/
import Derived.Test.YteghmdfiofbmiaaStrip
import Derived.Test.YteghmdfiofbmiaaInts
import Derived.WalkSmall
namespace Go.Proofs.Yteghmdfiofbmiaa
open Go.ChangeShapes Go.WideShapes Go.ChangeAt Go.RowKit
set_option maxRecDepth 100000
set_option linter.unusedVariables false

theorem byte_at' {s : ByteArray} {k : Nat} (h : k < s.size) : s.data.toList.getD k 0 = s[k] := by
  have h' : k < s.data.size := h
  rw [List.getD, Array.getElem?_toList, Array.getElem?_eq_getElem h']
  rfl
theorem bytes_ne_f {x y : UInt8} (h : x = y) : (((x.toNat : Nat) : Int) != ((y.toNat : Nat) : Int)) = false := by subst h; simp
theorem bytes_ne_t {x y : UInt8} (h : ¬ x = y) : (((x.toNat : Nat) : Int) != ((y.toNat : Nat) : Int)) = true := by
  have : ¬ ((x.toNat : Nat) : Int) = ((y.toNat : Nat) : Int) := fun e => h (UInt8.toNat_inj.1 (by omega))
  simpa using this
def corB (s : ByteArray) (k : Nat) : Bool := decide (1 ≤ k) && decide (s.data.toList.getD (k - 1) 0 ≠ s.data.toList.getD k 0)
def corL (s : ByteArray) : Nat → List Int
  | 0 => []
  | k + 1 => if corB s k = true then corL s k ++ [(k : Int)] else corL s k
theorem corL_le (s : ByteArray) (k : Nat) : (corL s k).length ≤ k := by
  induction k with
  | zero => exact Nat.le_refl _
  | succ k ih =>
    unfold corL
    split
    · rw [List.length_append]; simp; omega
    · omega
theorem corL_one (s : ByteArray) : corL s 1 = [] := by unfold corL; rw [if_neg (by unfold corB; simp)]; rfl
theorem corL_yes {s : ByteArray} {k : Nat} (h : corB s k = true) : corL s (k + 1) = corL s k ++ [(k : Int)] := by show (if _ then _ else _) = _; rw [if_pos h]
theorem corL_no {s : ByteArray} {k : Nat} (h : corB s k = false) : corL s (k + 1) = corL s k := by show (if _ then _ else _) = _; rw [h]; rfl
theorem owns_sl {w : World} {base n : Nat} {e : TypeId} {v : Value} {zs : List Int} (h : w.ownsRow base e 1 v n (zs.map (Value.int .i64))) (hn : zs.length = n) :
    ∃ a c, v = .slice a n c ∧ SlR w a n (ic zs) ∧ Fresh base a n := by
  by_cases hv : v = .slice none 0 0
  · obtain ⟨_, h⟩ := h
    rcases h with ⟨_, h0⟩ | ⟨g, cap, cur, h1, _⟩
    · subst h0; exact ⟨none, 0, hv, .inl rfl, .inl rfl⟩
    · rw [hv] at h1; simp at h1
  · obtain ⟨g, cap, rfl, hb, hl, hr⟩ := owns_row h hv
    refine ⟨some ⟨g, 0, none⟩, cap, rfl, .of_row ((hr.mono (M := n) (by omega)).congr fun i hi => ?_), .of hb⟩
    have : i < zs.length := by omega
    simp [ic, List.getD, this]

theorem owns_below {w w' : World} {base n size : Nat} {e : TypeId} {v : Value} {xs : List Value} (h : w.ownsRow base e size v n xs) (hb : Below w.heap.size w w') : w'.ownsRow base e size v n xs := by
  obtain ⟨hl, h⟩ := h
  refine ⟨hl, ?_⟩
  rcases h with h | ⟨g, cap, cur, h1, h2, hh, h3⟩
  · exact .inl h
  · have hlt : g < w.heap.size := by
      rcases Nat.lt_or_ge g w.heap.size with h' | h'
      · exact h'
      · simp [Array.getElem?_eq_none h'] at hh
    exact .inr ⟨g, cap, cur, h1, h2, by rw [hb.block g hlt]; exact hh, h3⟩
theorem grown_below {w w1 : World} {base B : Nat} {v : Value} {o : Obj} {n size : Nat} {e : TypeId} {xs : List Value} (h : w.ownsRow base e size v n xs) (hg : (w.alloc o).grownBy w1 v.ownBlock) (hB : B ≤ base) (hs : B ≤ w.heap.size) : Below B w w1 :=
  ((Below.refl _ _).alloc hs o).grown hg (by simp; omega) (fun k hk => Nat.le_trans hB (h.lt k hk).1)

theorem isCorner_any (s : ByteArray) (k : Nat) (w : World) (hs : s.size ≤ 1048576) (hk : k < s.size) :
    Calls Try.prog 132 #[.string s, .int .i64 k] w fun e w' => e = .returned (.bool (corB s k)) ∧ Below w.heap.size w w' := by
  have s1 : IntKind.i64.wrap ((s.size : Int) - 1) = (s.size : Int) - 1 := IntWalk.i64_in _ (by omega)
  rcases Nat.eq_zero_or_pos k with h0 | h0
  · subst h0
    have HV : Hid (corB s 0 = false) := Lib.hid (by unfold corB; simp)
    go_enter Try.func132, Try.ntmps132
    go_wp2
    go_quiet ((go_at_call 62; exact quiet_eq (within_f _ _ _ _ (by simp))))
    go_wp2
    go_ret
    exact ⟨ret_bool HV.out.symm, below_drewN (Below.refl _ _) _⟩
  · have s2 : IntKind.i64.wrap ((k : Int) - 1) = (k : Int) - 1 := IntWalk.i64_in _ (by omega)
    have i0 : (0 : Int) ≤ (k : Int) - 1 := by omega
    have i0' : (1 : Int) ≤ (k : Int) := by omega
    have i1 : (k : Int) - 1 < (s.size : Int) := by omega
    have i2 : (k : Int) < (s.size : Int) := by omega
    have i3 : (0 : Int) ≤ (k : Int) := by omega
    have i4 : ((k : Int) - 1).toNat = k - 1 := by omega
    have i5 : (k : Int) ≤ (s.size : Int) - 1 := by omega
    have hk1 : k - 1 < s.size := by omega
    by_cases h : s[k - 1] = s[k]
    · have HV : Hid (corB s k = false) := Lib.hid (by unfold corB; rw [byte_at' hk1, byte_at' hk, h]; simp)
      have b1 := bytes_ne_f h
      clear h
      go_enter Try.func132, Try.ntmps132
      go_wp2
      go_quiet ((go_at_call 62; exact quiet_eq (within_t _ _ _ _ i0' i5)))
      go_wp2
      go_ret
      exact ⟨ret_bool HV.out.symm, below_drewN (Below.refl _ _) _⟩
    · have HV : Hid (corB s k = true) := Lib.hid (by unfold corB; rw [byte_at' hk1, byte_at' hk]; simp [h]; omega)
      have b1 := bytes_ne_t h
      clear h
      go_enter Try.func132, Try.ntmps132
      go_wp2
      go_quiet ((go_at_call 62; exact quiet_eq (within_t _ _ _ _ i0' i5)))
      go_wp2
      go_ret
      exact ⟨ret_bool HV.out.symm, below_drewN (Below.refl _ _) _⟩

theorem cell_news (w : World) (v : Value) (e : TypeId) : ∀ j u, [v][j]? = some u → (w.alloc (.cells #[v] e (0, 0))).cell? ((⟨w.heap.size, 0, none⟩ : Addr).add j) = some u := by
  intro j u hj
  have hj0 : j = 0 := by
    have := (List.getElem?_eq_some_iff.1 hj).1
    simp at this; exact this
  subst hj0
  simp at hj
  subst hj
  rw [add_at]
  exact (Row.of_new w #[v] e).cell (i := 0) Nat.zero_lt_one
def CorP (s : ByteArray) (w : World) (e : Ending) (w' : World) : Prop := ∃ a c, e = .returned (.slice a (corL s s.size).length c) ∧ SlR w' a (corL s s.size).length (ic (corL s s.size)) ∧ Fresh w.heap.size a (corL s s.size).length ∧ Below w.heap.size w w'
set_option maxHeartbeats 1000000 in
theorem iCornersOf_any (s : ByteArray) (w : World) (hs : s.size ≤ 1048576) (hb : isStripB s = true) :
    Calls Try.prog 127 #[.string s] w (CorP s w) := by
  obtain ⟨i0, hi0, hz0, hz1, hz2⟩ := info_parts infoInt
  have HS := Lib.hid hb
  clear hb
  go_enter Try.func127, Try.ntmps127
  go_wp2_with (go_at_call 122; refine (iIsStrip_any _ _ hs).mono ?_; rw [HS.out]; rintro e w' ⟨rfl, rfl⟩)
  go_loopw [3, 11] (fun v i wr => ∃ k : Nat, k ≤ s.size ∧ i = .int .i64 k ∧ wr.ownsRow w.heap.size 3 1 v (corL s k).length ((corL s k).map (Value.int .i64)) ∧ Below w.heap.size w wr) (fun _ i _ => s.size - (intOf i).toNat)
  case atStart => exact ⟨0, Nat.zero_le _, rfl, owns_empty w _ 1, Below.box _ _⟩
  case round =>
    obtain ⟨k, hk, rfl, hown, hB⟩ := hrel
    have HB := Lib.hid hB
    have HOw := Lib.hid hown
    have hle := corL_le s k
    clear hown hB
    by_cases hlt : k < s.size
    · cases hc : corB s k
      · have HC := Lib.hid hc
        have HL := Lib.hid (corL_no hc)
        clear hc
        go_wp2_with (go_at_call 132; refine (isCorner_any _ _ _ hs hlt).mono ?_; rw [HC.out]; rintro e w2 ⟨rfl, hb2⟩)
        go_roundw
        case rel => exact ⟨k + 1, by omega, by go_num, by rw [HL.out]; exact owns_below HOw.out hb2, HB.out.trans (hb2.mono HB.out.size)⟩
        case measure => simp [intOf]; omega
      · have HC := Lib.hid hc
        have HL := Lib.hid (corL_yes hc)
        clear hc
        go_wp2_with (first | (go_at_call 132; refine (isCorner_any _ _ _ hs hlt).mono ?_; rw [HC.out]; rintro e w2 ⟨rfl, hb2⟩; have HO2 := Lib.hid (owns_below HOw.out hb2); have HB2 := Lib.hid (HB.out.trans (hb2.mono HB.out.size)); clear hb2) | (at_builtin; refine wpList_append_own _ rfl _ _ 22 rfl w.heap.size 3 i0 _ 1 8 Try.underlying22 hi0 hz0 hz1 hz2 rfl (by decide) u3 (corL s k).length ((corL s k).map (Value.int .i64)) rfl (HO2.out.alloc _) ⟨w2.heap.size, 0, none⟩ 1 1 [.int .i64 k] rfl rfl (cell_news _ _ _) (by simp [Value.oneCell']) (by unfold maxLen; omega) (by omega) (by have := HB2.out.size; simp; omega) ?_; intro v' w3 own3 gr3 nn3; have HG3 := Lib.hid gr3; have HO3 := Lib.hid own3; clear own3 gr3 nn3))
        go_roundw
        case rel => exact ⟨k + 1, by omega, by go_num, by rw [HL.out, List.length_append, List.map_append]; exact HO3.out, HB2.out.trans (grown_below HO2.out HG3.out (Nat.le_refl _) HB2.out.size |>.mono (Nat.le_refl _))⟩
        case measure => simp [intOf]; omega
    · have hk' : k = s.size := by omega
      subst hk'
      obtain ⟨a, c, hv, hsl, hfr⟩ := owns_sl HOw.out rfl
      have HV := Lib.hid hv
      have HSl := Lib.hid hsl
      have HFr := Lib.hid hfr
      clear hv hsl hfr
      go_wp2
      go_ret
      exact ⟨a, c, congrArg Ending.returned HV.out, HSl.out, HFr.out, HB.out⟩

set_option maxHeartbeats 1000000 in
theorem sCornersOf_any (s : ByteArray) (w : World) (hs : s.size ≤ 1048576) (hb : isStripB s = true) :
    Calls Try.prog 115 #[.string s] w (CorP s w) := by
  obtain ⟨i0, hi0, hz0, hz1, hz2⟩ := info_parts infoInt
  have hsz : 2 ≤ s.size := by have := isStrip_iff.1 hb; omega
  have HS := Lib.hid hb
  clear hb
  go_enter Try.func115, Try.ntmps115
  go_wp2
  go_loopw [3, 4] (fun v i wr => ∃ k : Nat, 1 ≤ k ∧ k ≤ s.size ∧ i = .int .i64 k ∧ wr.ownsRow w.heap.size 3 1 v (corL s k).length ((corL s k).map (Value.int .i64)) ∧ Below w.heap.size w wr) (fun _ i _ => s.size - (intOf i).toNat)
  case atStart => exact ⟨1, Nat.le_refl _, by omega, rfl, by rw [corL_one]; exact owns_empty w _ 1, Below.box _ _⟩
  case round =>
    obtain ⟨k, hk0, hk, rfl, hown, hB⟩ := hrel
    have HB := Lib.hid hB
    have HOw := Lib.hid hown
    have hle := corL_le s k
    clear hown hB
    by_cases hlt : k < s.size
    · have s2 : IntKind.i64.wrap ((k : Int) - 1) = (k : Int) - 1 := IntWalk.i64_in _ (by omega)
      have j0 : (0 : Int) ≤ (k : Int) - 1 := by omega
      have j0' : (1 : Int) ≤ (k : Int) := by omega
      have j1 : (k : Int) - 1 < (s.size : Int) := by omega
      have j2 : (k : Int) < (s.size : Int) := by omega
      have j3 : (0 : Int) ≤ (k : Int) := by omega
      have j4 : ((k : Int) - 1).toNat = k - 1 := by omega
      have hk1 : k - 1 < s.size := by omega
      by_cases h : s[k] = s[k - 1]
      · have HL := Lib.hid (corL_no (s := s) (k := k) (by unfold corB; rw [byte_at' hk1, byte_at' hlt, h]; simp))
        have b1 := bytes_ne_f h
        clear h
        go_wp2_with (go_at_call 114; refine (sIsStrip_any _ _ hs).mono ?_; rw [HS.out]; rintro e w' ⟨rfl, rfl⟩)
        go_quiet (fail)
        clear s2
        go_wp2
        go_roundw
        case rel => exact ⟨k + 1, by omega, by omega, by go_num, by rw [HL.out]; exact owns_below HOw.out (below_drewN (Below.refl _ _) _), below_drewN HB.out _⟩
        case measure => simp [intOf]; omega
      · have HL := Lib.hid (corL_yes (s := s) (k := k) (by unfold corB; rw [byte_at' hk1, byte_at' hlt]; simp [Ne.symm h]; omega))
        have b1 := bytes_ne_t h
        clear h
        go_wp2_with (go_at_call 114; refine (sIsStrip_any _ _ hs).mono ?_; rw [HS.out]; rintro e w' ⟨rfl, rfl⟩)
        go_quiet (fail)
        clear s2
        obtain ⟨w2, hw2⟩ : ∃ w2 : World, w2 = wr.drewN nq := ⟨_, rfl⟩
        have HO2 : Hid (w2.ownsRow w.heap.size 3 1 u3 (corL s k).length ((corL s k).map (Value.int .i64))) := Lib.hid (hw2 ▸ owns_below HOw.out (below_drewN (Below.refl _ _) _))
        have HB2 : Hid (Below w.heap.size w w2) := Lib.hid (hw2 ▸ below_drewN HB.out _)
        rw [← hw2]
        clear hw2
        go_wp2_with (at_builtin; refine wpList_append_own _ rfl _ _ 22 rfl w.heap.size 3 i0 _ 1 8 Try.underlying22 hi0 hz0 hz1 hz2 rfl (by decide) u3 (corL s k).length ((corL s k).map (Value.int .i64)) rfl (HO2.out.alloc _) ⟨w2.heap.size, 0, none⟩ 1 1 [.int .i64 k] rfl rfl (cell_news _ _ _) (by simp [Value.oneCell']) (by unfold maxLen; omega) (by omega) (by have := HB2.out.size; simp; omega) ?_; intro v' w3 own3 gr3 nn3; have HG3 := Lib.hid gr3; have HO3 := Lib.hid own3; clear own3 gr3 nn3)
        go_roundw
        case rel => exact ⟨k + 1, by omega, by omega, by go_num, by rw [HL.out, List.length_append, List.map_append]; exact HO3.out, HB2.out.trans (grown_below HO2.out HG3.out (Nat.le_refl _) HB2.out.size)⟩
        case measure => simp [intOf]; omega
    · have hk' : k = s.size := by omega
      subst hk'
      obtain ⟨a, c, hv, hsl, hfr⟩ := owns_sl HOw.out rfl
      have HV := Lib.hid hv
      have HSl := Lib.hid hsl
      have HFr := Lib.hid hfr
      clear hv hsl hfr
      go_wp2
      go_ret
      exact ⟨a, c, congrArg Ending.returned HV.out, HSl.out, HFr.out, HB.out⟩

/-! ### CountFolds -/
def lastB (s : ByteArray) : UInt8 := s.data.toList.getD (s.size - 1) 0
def foldsOf' (s : ByteArray) : Int := ((corL s s.size).length : Int) + (if s.data.toList.getD 0 0 = 102 then 1 else 0) + (if lastB s = 100 then 1 else 0)
def folds (s : ByteArray) : Int := if isStripB s = true then foldsOf' s else -1
theorem iCountFolds_any (s : ByteArray) (w : World) (hs : s.size ≤ 1048576) :
    Calls Try.prog 118 #[.string s] w fun e w' => e = .returned (.int .i64 (folds s)) ∧ Below w.heap.size w w' := by
  cases hb : isStripB s
  · have HS := Lib.hid hb
    have HV : Hid (folds s = -1) := Lib.hid (by unfold folds; rw [hb]; rfl)
    clear hb
    go_enter Try.func118, Try.ntmps118
    go_wp2_with (go_at_call 122; refine (iIsStrip_any _ _ hs).mono ?_; rw [HS.out]; rintro e w' ⟨rfl, rfl⟩)
    go_ret
    exact ⟨ret_int HV.out.symm, Below.refl _ _⟩
  · have hsz : 2 ≤ s.size := by have := isStrip_iff.1 hb; omega
    have HS := Lib.hid hb
    have h0 : 0 < s.size := by omega
    have hl : s.size - 1 < s.size := by omega
    have hle := corL_le s s.size
    have HV : Hid (folds s = ((corL s s.size).length : Int) + (if s[0] = 102 then 1 else 0) + (if s[s.size - 1] = 100 then 1 else 0)) := Lib.hid (by unfold folds foldsOf' lastB; rw [hb, byte_at' h0, byte_at' hl]; rfl)
    have j1 : ((s.size : Int) - 1).toNat = s.size - 1 := by omega
    have j2 : (1 : Int) ≤ (s.size : Int) := by omega
    clear hb
    by_cases a : s[0] = 102
    · have a1 := byte_102t a
      by_cases b : s[s.size - 1] = 100
      · have b1 := byte_100t b
        rw [if_pos a, if_pos b] at HV
        clear a b
        go_enter Try.func118, Try.ntmps118
        go_wp2_with (first | (go_at_call 122; refine (iIsStrip_any _ _ hs).mono ?_; rw [HS.out]; rintro e w' ⟨rfl, rfl⟩) | (go_at_call 127; refine (iCornersOf_any _ _ hs HS.out).mono ?_; rintro e w2 ⟨aa, cc, rfl, _, _, hb2⟩))
        go_ret
        exact ⟨ret_int HV.out.symm, hb2⟩
      · have b1 := byte_100f b
        rw [if_pos a, if_neg b] at HV
        clear a b
        go_enter Try.func118, Try.ntmps118
        go_wp2_with (first | (go_at_call 122; refine (iIsStrip_any _ _ hs).mono ?_; rw [HS.out]; rintro e w' ⟨rfl, rfl⟩) | (go_at_call 127; refine (iCornersOf_any _ _ hs HS.out).mono ?_; rintro e w2 ⟨aa, cc, rfl, _, _, hb2⟩))
        go_ret
        exact ⟨ret_int (by rw [HV.out]; omega), hb2⟩
    · have a1 := byte_102f a
      by_cases b : s[s.size - 1] = 100
      · have b1 := byte_100t b
        rw [if_neg a, if_pos b] at HV
        clear a b
        go_enter Try.func118, Try.ntmps118
        go_wp2_with (first | (go_at_call 122; refine (iIsStrip_any _ _ hs).mono ?_; rw [HS.out]; rintro e w' ⟨rfl, rfl⟩) | (go_at_call 127; refine (iCornersOf_any _ _ hs HS.out).mono ?_; rintro e w2 ⟨aa, cc, rfl, _, _, hb2⟩))
        go_ret
        exact ⟨ret_int (by rw [HV.out]; omega), hb2⟩
      · have b1 := byte_100f b
        rw [if_neg a, if_neg b] at HV
        clear a b
        go_enter Try.func118, Try.ntmps118
        go_wp2_with (first | (go_at_call 122; refine (iIsStrip_any _ _ hs).mono ?_; rw [HS.out]; rintro e w' ⟨rfl, rfl⟩) | (go_at_call 127; refine (iCornersOf_any _ _ hs HS.out).mono ?_; rintro e w2 ⟨aa, cc, rfl, _, _, hb2⟩))
        go_ret
        exact ⟨ret_int (by rw [HV.out]; omega), hb2⟩
theorem sCountFolds_any (s : ByteArray) (w : World) (hs : s.size ≤ 1048576) :
    Calls Try.prog 88 #[.string s] w fun e w' => e = .returned (.int .i64 (folds s)) ∧ Below w.heap.size w w' := by
  cases hb : isStripB s
  · have HS := Lib.hid hb
    have HV : Hid (folds s = -1) := Lib.hid (by unfold folds; rw [hb]; rfl)
    clear hb
    go_enter Try.func88, Try.ntmps88
    go_wp2_with (go_at_call 114; refine (sIsStrip_any _ _ hs).mono ?_; rw [HS.out]; rintro e w' ⟨rfl, rfl⟩)
    go_ret
    exact ⟨ret_int HV.out.symm, Below.refl _ _⟩
  · have hsz : 2 ≤ s.size := by have := isStrip_iff.1 hb; omega
    have HS := Lib.hid hb
    have h0 : 0 < s.size := by omega
    have hl : s.size - 1 < s.size := by omega
    have hle := corL_le s s.size
    have HV : Hid (folds s = ((corL s s.size).length : Int) + (if s[0] = 102 then 1 else 0) + (if s[s.size - 1] = 100 then 1 else 0)) := Lib.hid (by unfold folds foldsOf' lastB; rw [hb, byte_at' h0, byte_at' hl]; rfl)
    have j1 : ((s.size : Int) - 1).toNat = s.size - 1 := by omega
    have j2 : (1 : Int) ≤ (s.size : Int) := by omega
    clear hb
    by_cases a : s[0] = 102
    · have a1 := byte_102t a
      by_cases b : s[s.size - 1] = 100
      · have b1 := byte_100t b
        rw [if_pos a, if_pos b] at HV
        clear a b
        go_enter Try.func88, Try.ntmps88
        go_wp2_with (first | (go_at_call 114; refine (sIsStrip_any _ _ hs).mono ?_; rw [HS.out]; rintro e w' ⟨rfl, rfl⟩) | (go_at_call 115; refine (sCornersOf_any _ _ hs HS.out).mono ?_; rintro e w2 ⟨aa, cc, rfl, _, _, hb2⟩))
        go_ret
        exact ⟨ret_int HV.out.symm, hb2⟩
      · have b1 := byte_100f b
        rw [if_pos a, if_neg b] at HV
        clear a b
        go_enter Try.func88, Try.ntmps88
        go_wp2_with (first | (go_at_call 114; refine (sIsStrip_any _ _ hs).mono ?_; rw [HS.out]; rintro e w' ⟨rfl, rfl⟩) | (go_at_call 115; refine (sCornersOf_any _ _ hs HS.out).mono ?_; rintro e w2 ⟨aa, cc, rfl, _, _, hb2⟩))
        go_ret
        exact ⟨ret_int (by rw [HV.out]; omega), hb2⟩
    · have a1 := byte_102f a
      by_cases b : s[s.size - 1] = 100
      · have b1 := byte_100t b
        rw [if_neg a, if_pos b] at HV
        clear a b
        go_enter Try.func88, Try.ntmps88
        go_wp2_with (first | (go_at_call 114; refine (sIsStrip_any _ _ hs).mono ?_; rw [HS.out]; rintro e w' ⟨rfl, rfl⟩) | (go_at_call 115; refine (sCornersOf_any _ _ hs HS.out).mono ?_; rintro e w2 ⟨aa, cc, rfl, _, _, hb2⟩))
        go_ret
        exact ⟨ret_int (by rw [HV.out]; omega), hb2⟩
      · have b1 := byte_100f b
        rw [if_neg a, if_neg b] at HV
        clear a b
        go_enter Try.func88, Try.ntmps88
        go_wp2_with (first | (go_at_call 114; refine (sIsStrip_any _ _ hs).mono ?_; rw [HS.out]; rintro e w' ⟨rfl, rfl⟩) | (go_at_call 115; refine (sCornersOf_any _ _ hs HS.out).mono ?_; rintro e w2 ⟨aa, cc, rfl, _, _, hb2⟩))
        go_ret
        exact ⟨ret_int (by rw [HV.out]; omega), hb2⟩
end Go.Proofs.Yteghmdfiofbmiaa
