/-
  Contracts of the program's lengths and of slices.Index at bools.
  By an AI agent.
-/
import Derived.Test.YtjnjlpljakkakaaEndsB
import Derived.Test.YtjnjlpljakkakaaBits
namespace Go.Proofs.Ytjnjlpljakkakaa
open Go.ChangeShapes Go.WideShapes Go.ChangeAt Go.RowKit Go.Joins Go.Deep
set_option maxRecDepth 100000
set_option linter.unusedVariables false

/-- Page p is met from page 0 in just k steps. -/
def FR (L : Rows) : Nat → Nat → Prop
  | 0, p => p = 0
  | k + 1, p => ∃ x, FR L k x ∧ edge L x p
theorem E_split (L : Rows) (k : Nat) : ∀ j, E L (k + j) 0 ↔ ∃ p, FR L k p ∧ E L j p := by
  induction k with
  | zero => intro j; rw [Nat.zero_add]; exact ⟨fun h => ⟨0, rfl, h⟩, fun ⟨p, hp, h⟩ => by have : p = 0 := hp; subst this; exact h⟩
  | succ k ih =>
    intro j
    rw [show k + 1 + j = k + (j + 1) by omega, ih (j + 1)]
    constructor
    · rintro ⟨p, hp, y, he, hy⟩; exact ⟨y, ⟨p, hp, he⟩, hy⟩
    · rintro ⟨y, ⟨p, hp, he⟩, hy⟩; exact ⟨p, hp, y, he, hy⟩
theorem FR_lt {n : Nat} {L : Rows} (hs : storyOk n L) (k : Nat) : ∀ {p}, FR L k p → p < n := by
  induction k with
  | zero => intro p h; have : p = 0 := h; have := hs.1.1; omega
  | succ k ih => rintro p ⟨x, hx, he⟩; exact edge_lt hs (ih hx) he
open Classical in
noncomputable def frB (L : Rows) (k p : Nat) : Bool := decide (FR L k p)
open Classical in
noncomputable def ebB (L : Rows) (k : Nat) : Bool := decide (E L k 0)
/-- An end lies among the first q pages that are met in k steps. -/
def endQ (L : Rows) (k q : Nat) : Prop := ∃ p, p < q ∧ FR L k p ∧ lenN L p = 0
/-- Page y follows one of the first q pages that are met in k steps, or is among the first i that follow page q. -/
def nextQ (L : Rows) (k q i y : Nat) : Prop := (∃ p, p < q ∧ FR L k p ∧ edge L p y) ∨ (FR L k q ∧ ∃ j, j < i ∧ nx L q j = y)
open Classical in
noncomputable def endQB (L : Rows) (k q : Nat) : Bool := decide (endQ L k q)
open Classical in
noncomputable def nextQB (L : Rows) (k q i y : Nat) : Bool := decide (nextQ L k q i y)
open Classical in
theorem dec_congr {P Q : Prop} (h : P ↔ Q) : decide P = decide Q := by
  by_cases hq : Q
  · rw [decide_eq_true hq, decide_eq_true (h.2 hq)]
  · rw [decide_eq_false hq, decide_eq_false (fun hp => hq (h.1 hp))]
section
open Classical
theorem endQ_zero (L : Rows) (k : Nat) : endQB L k 0 = false := by unfold endQB; exact decide_eq_false (fun ⟨p, hp, _⟩ => by omega)
theorem endQ_all {n : Nat} {L : Rows} (hs : storyOk n L) (k : Nat) : endQB L k n = ebB L k := by
  unfold endQB ebB
  refine dec_congr ?_
  have := E_split L k 0
  rw [Nat.add_zero] at this
  rw [this]
  exact ⟨fun ⟨p, _, h1, h2⟩ => ⟨p, h1, h2⟩, fun ⟨p, h1, h2⟩ => ⟨p, FR_lt hs k h1, h1, h2⟩⟩
theorem endQ_no {L : Rows} {k q : Nat} (h : frB L k q = false) : endQB L k (q + 1) = endQB L k q := by
  unfold endQB
  refine dec_congr ⟨fun ⟨p, hp, h1, h2⟩ => ⟨p, ?_, h1, h2⟩, fun ⟨p, hp, h1, h2⟩ => ⟨p, by omega, h1, h2⟩⟩
  by_cases e : p = q
  · subst e; unfold frB at h; exact absurd h1 (of_decide_eq_false h)
  · omega
theorem endQ_yes {L : Rows} {k q : Nat} (h : frB L k q = true) : endQB L k (q + 1) = (endQB L k q || decide (lenN L q = 0)) := by
  unfold frB at h
  have hf := of_decide_eq_true h
  by_cases h0 : lenN L q = 0
  · rw [decide_eq_true h0, Bool.or_true]; unfold endQB; exact decide_eq_true ⟨q, by omega, hf, h0⟩
  · rw [decide_eq_false h0, Bool.or_false]
    unfold endQB
    refine dec_congr ⟨fun ⟨p, hp, h1, h2⟩ => ⟨p, ?_, h1, h2⟩, fun ⟨p, hp, h1, h2⟩ => ⟨p, by omega, h1, h2⟩⟩
    by_cases e : p = q
    · subst e; exact absurd h2 h0
    · omega
theorem nextQ_zero (L : Rows) (k y : Nat) : nextQB L k 0 0 y = false := by
  unfold nextQB
  refine decide_eq_false ?_
  rintro (⟨p, hp, _⟩ | ⟨_, j, hj, _⟩)
  · omega
  · omega
theorem nextQ_all {n : Nat} {L : Rows} (hs : storyOk n L) (k y : Nat) : nextQB L k n 0 y = frB L (k + 1) y := by
  unfold nextQB frB
  refine dec_congr ⟨?_, fun ⟨p, h1, h2⟩ => .inl ⟨p, FR_lt hs k h1, h1, h2⟩⟩
  rintro (⟨p, _, h1, h2⟩ | ⟨_, j, hj, _⟩)
  · exact ⟨p, h1, h2⟩
  · omega
theorem nextQ_no {L : Rows} {k q : Nat} (h : frB L k q = false) (y : Nat) : nextQB L k (q + 1) 0 y = nextQB L k q 0 y := by
  unfold frB at h
  have hf := of_decide_eq_false h
  unfold nextQB
  refine dec_congr ⟨?_, ?_⟩
  · rintro (⟨p, hp, h1, h2⟩ | ⟨_, j, hj, _⟩)
    · by_cases e : p = q
      · subst e; exact absurd h1 hf
      · exact .inl ⟨p, by omega, h1, h2⟩
    · omega
  · rintro (⟨p, hp, h1, h2⟩ | ⟨_, j, hj, _⟩)
    · exact .inl ⟨p, by omega, h1, h2⟩
    · omega
theorem nextQ_step {L : Rows} {k q i : Nat} (h : frB L k q = true) (y : Nat) : nextQB L k q (i + 1) y = if y = nx L q i then true else nextQB L k q i y := by
  unfold frB at h
  have hf := of_decide_eq_true h
  by_cases e : y = nx L q i
  · rw [if_pos e]; unfold nextQB; exact decide_eq_true (.inr ⟨hf, i, by omega, e.symm⟩)
  · rw [if_neg e]
    unfold nextQB
    refine dec_congr ⟨?_, ?_⟩
    · rintro (h | ⟨_, j, hj, h⟩)
      · exact .inl h
      · by_cases ej : j = i
        · subst ej; exact absurd h.symm e
        · exact .inr ⟨hf, j, by omega, h⟩
    · rintro (h | ⟨_, j, hj, h⟩)
      · exact .inl h
      · exact .inr ⟨hf, j, by omega, h⟩
theorem nextQ_row {n : Nat} {L : Rows} (hs : storyOk n L) {k q : Nat} (hq : q < n) (h : frB L k q = true) (y : Nat) : nextQB L k q (lenN L q) y = nextQB L k (q + 1) 0 y := by
  unfold frB at h
  have hf := of_decide_eq_true h
  unfold nextQB
  refine dec_congr ⟨?_, ?_⟩
  · rintro (⟨p, hp, h1, h2⟩ | ⟨_, j, hj, h⟩)
    · exact .inl ⟨p, by omega, h1, h2⟩
    · exact .inl ⟨q, by omega, hf, h ▸ (edge_nx hs hq hj).1⟩
  · rintro (⟨p, hp, h1, h2⟩ | ⟨_, j, hj, _⟩)
    · by_cases e : p = q
      · subst e
        obtain ⟨j, hj, e⟩ := h2
        exact .inr ⟨hf, j, hj, by unfold nx; rw [e]; simp⟩
      · exact .inl ⟨p, by omega, h1, h2⟩
    · omega
end
theorem index_bool (g n c : Nat) (T : Nat → Bool) (w : World) (hn : n ≤ 1048576) (hR : Row w g n (bc T)) :
    Calls Try.prog 50 #[.slice (some ⟨g, 0, none⟩) n c, .bool true] w fun e w' => (∃ z : Int, e = .returned (.int .i64 z) ∧ ((z = -1 ∧ ∀ k, k < n → T k = false) ∨ ∃ k : Nat, k < n ∧ z = k ∧ T k = true ∧ ∀ j, j < k → T j = false)) ∧ w = w' := by
  have HR := Lib.hid hR
  clear hR
  go_enter Try.func50, Try.ntmps50
  go_wp2
  go_loop [8] (fun i => ∃ k : Nat, k ≤ n ∧ i = .int .i64 k ∧ (∀ j, j < k → T j = false)) (fun i => n - (intOf i).toNat)
  case atStart => exact ⟨0, Nat.zero_le _, rfl, fun j h => absurd h (Nat.not_lt_zero j)⟩
  case round =>
    obtain ⟨k, hk, rfl, hok⟩ := hrel
    have HO := Lib.hid hok
    clear hok
    by_cases hlt : k < n
    · have c0 := HR.out.cell hlt
      unfold bc at c0
      cases hT : T k
      · have HO2 : Hid (∀ j, j < k + 1 → T j = false) := Lib.hid (by
          intro j hj
          by_cases e : j = k
          · rw [e]; exact hT
          · exact HO.out j (by omega))
        rw [hT] at c0
        clear hT
        go_wp2
        go_round
        case rel => exact ⟨k + 1, by omega, by go_num, HO2.out⟩
        case measure => simp [intOf]; omega
      · rw [hT] at c0
        have HT := Lib.hid hT
        clear hT
        go_wp2
        go_ret
        exact ⟨⟨_, rfl, .inr ⟨k, hlt, rfl, HT.out, HO.out⟩⟩, rfl⟩
    · have hk' : k = n := by omega
      subst hk'
      go_wp2
      go_ret
      exact ⟨⟨_, rfl, .inl ⟨rfl, HO.out⟩⟩, rfl⟩
def LensP (n : Nat) (L : Rows) (w : World) (e : Ending) (w' : World) : Prop :=
  ∃ (g c : Nat), e = .returned (.slice (some ⟨g, 0, none⟩) n c) ∧ Row w' g n (bc (ebB L)) ∧ Below w.heap.size w w'
noncomputable def ebL (L : Rows) (k : Nat) : List Value := (List.range k).map fun j => Value.bool (ebB L j)
theorem ebL_succ (L : Rows) (k : Nat) : ebL L (k + 1) = ebL L k ++ [.bool (ebB L k)] := by unfold ebL; rw [List.range_succ, List.map_append]; rfl
set_option maxHeartbeats 8000000 in
theorem lengths_any (a : Option Addr) (n c : Nat) (L : Rows) (w : World) (hs : storyOk n L) (hR : RSt w a n L) :
    Calls Try.prog 51 #[.agg #[.slice a n c]] w (LensP n L w) := by
  obtain ⟨i0, hi0, hz0, hz1, hz2⟩ := info_parts infoBool
  have HS := Lib.hid hs
  obtain ⟨n1, n16⟩ := hs.1
  have hmk : ∀ q, (if q = 0 then true else false) = frB L 0 q := fun q => by
    unfold frB FR
    by_cases e : q = 0
    · rw [if_pos e]; exact (decide_eq_true e).symm
    · rw [if_neg e]; exact (decide_eq_false e).symm
  have HMK := Lib.hid hmk
  clear hmk
  have hb0 := Below.box w (.cells #[.slice a n c] 27 (0, 0))
  have HB0 := Lib.hid hb0
  have HR0 := Lib.hid (hR.below hb0)
  have hsz : (w.alloc (.cells #[.slice a n c] 27 (0, 0))).heap.size = w.heap.size + 1 := by simp
  have hc0 : (w.alloc (.cells #[.slice a n c] 27 (0, 0))).cell? ⟨w.heap.size, 0, none⟩ = some (.slice a n c) := new_cell rfl
  have HC0 := Lib.hid hc0
  clear hs hR hb0
  have i1 : (0 : Int) < (n : Int) := by omega
  have i2 : 0 < n := by omega
  go_enter Try.func51, Try.ntmps51
  go_wp2_with (at_make; refine wpList_make_full _ rfl _ _ 47 rfl (w.alloc (.cells #[.slice a n c] 27 (0, 0))).heap.size 4 i0 _ 1 Try.underlying47 hi0 hz0 hz1 .i64 .i64 n n n rfl rfl rfl rfl (by rw [hz2]; omega) (by unfold maxLen; omega) (Nat.le_refl _) ?_; intro w1 own1 gr1; have B0 : Below (w.alloc (.cells #[.slice a n c] 27 (0, 0))).heap.size (w.alloc (.cells #[.slice a n c] 27 (0, 0))) w1 := (Below.refl _ _).grown gr1 (Nat.le_refl _) (by simp); have hc1 := (B0.cell (p := ⟨w.heap.size, 0, none⟩) (by simp)).trans HC0.out; have R0 : Row w1 (w.heap.size + 1) n (bc (fun _ => false)) := (by rw [← hsz]; exact ((Row.of_owns own1).mono (M := n) (by omega)).congr fun j hj => (by rw [made_at _ _ _ (by omega)]; simp [Value.cells, Nat.mod_one, bc])); have c9 := R0.cell (i := 0) (by omega); have f9 := R0.frozen 0; unfold bc at c9; have hlt9 := R0.lt; have HRW := Lib.hid R0; have HB1 := Lib.hid B0; have hc2 : ((w1.setCell ⟨w.heap.size + 1, 0, none⟩ (.bool true)).alloc (.cells #[] 4 (0, 0))).cell? ⟨w.heap.size, 0, none⟩ = some (.slice a n c) := (((Below.box _ _).cell (p := ⟨w.heap.size, 0, none⟩) (by show w.heap.size < _; simp; omega)).trans (World.cell?_of_block (w := w1) (a := ⟨w.heap.size, 0, none⟩) (Below.heap_setCell w1 ⟨w.heap.size + 1, 0, none⟩ (.bool true) w.heap.size (by simp)))).trans hc1; clear R0 B0 own1 gr1)
  have HNOW : Hid (Row ((w1.setCell ⟨w.heap.size + 1, 0, none⟩ (.bool true)).alloc (.cells #[] 4 (0, 0))) (w.heap.size + 1) n (bc (frB L 0))) := Lib.hid (((bc_set HRW.out).below (Below.box _ _) (bc_set HRW.out).lt).congr fun q _ => congrArg Value.bool (HMK.out q))
  have HOUT : Hid (Own1 ((w1.setCell ⟨w.heap.size + 1, 0, none⟩ (.bool true)).alloc (.cells #[] 4 (0, 0))) (w.alloc (.cells #[.slice a n c] 27 (0, 0))).heap.size 4 w1.heap.size 0 0 []) := Lib.hid (by
    have o := Own1.empty (w1.setCell ⟨w.heap.size + 1, 0, none⟩ (.bool true)) 4
    have e : (w1.setCell ⟨w.heap.size + 1, 0, none⟩ (.bool true)).heap.size = w1.heap.size := by simp
    rw [e] at o
    exact o.mono HB1.out.size)
  have HBW : Hid (Below (w.alloc (.cells #[.slice a n c] 27 (0, 0))).heap.size (w.alloc (.cells #[.slice a n c] 27 (0, 0))) ((w1.setCell ⟨w.heap.size + 1, 0, none⟩ (.bool true)).alloc (.cells #[] 4 (0, 0)))) := Lib.hid ((HB1.out.setCell (p := ⟨w.heap.size + 1, 0, none⟩) (by rw [hsz]; exact Nat.le_refl _) _).alloc (by simp; omega) _)
  have HNG : Hid (w.heap.size + 1 ≠ w1.heap.size) := Lib.hid (by omega)
  clear c9 f9 hc1 hc2 hlt9 HRW HB1 hc0
  generalize ((w1.setCell ⟨w.heap.size + 1, 0, none⟩ (.bool true)).alloc (.cells #[] 4 (0, 0))) = wA at *
  generalize hW : (w.alloc (.cells #[.slice a n c] 27 (0, 0))) = W at *
  clear hW
  generalize hbx : w.heap.size = bx at *
  have FIN : Hid (∀ w', Below W.heap.size W w' → Below w.heap.size w w') := Lib.hid (fun w' h => by rw [hbx]; exact HB0.out.trans (h.mono (by omega)))
  clear hbx
  go_loopw [3, 4, 21] (fun u v i wr => ∃ (r gn go co : Nat), r ≤ n ∧ i = .int .i64 r ∧ u = .slice (some ⟨gn, 0, none⟩) n n ∧ v = .slice (some ⟨go, 0, none⟩) r co ∧ Row wr gn n (bc (frB L r)) ∧ W.heap.size ≤ gn ∧ gn ≠ go ∧ Own1 wr W.heap.size 4 go r co (ebL L r) ∧ Below W.heap.size W wr) (fun _ _ i _ => n - (intOf i).toNat)
  case atStart => exact ⟨0, _, _, 0, Nat.zero_le _, rfl, rfl, rfl, HNOW.out, by omega, HNG.out, HOUT.out, HBW.out⟩
  case round =>
    clear HNOW HOUT HBW HNG
    obtain ⟨r, gn, go, co, hr, rfl, rfl, rfl, h1, h2, h3, h4, h5⟩ := hrel
    rename World => wo
    have HRN := Lib.hid h1
    have HGN := Lib.hid h2
    have HNE := Lib.hid h3
    have HO := Lib.hid h4
    have HB := Lib.hid h5
    clear h1 h2 h3 h4 h5
    have cP := (HB.out.cell (p := ⟨bx, 0, none⟩) (by show bx < _; omega)).trans HC0.out
    by_cases hlr : r < n
    · have hgnl := HRN.out.lt
      have hgol := HO.out.lt
      go_wp2_with (at_make; refine wpList_make_full _ rfl _ _ 47 rfl wo.heap.size 4 i0 _ 1 Try.underlying47 hi0 hz0 hz1 .i64 .i64 n n n rfl rfl rfl rfl (by rw [hz2]; omega) (by unfold maxLen; omega) (Nat.le_refl _) ?_; intro w2 own2 gr2; have B2 : Below wo.heap.size wo w2 := (Below.refl _ _).grown gr2 (Nat.le_refl _) (by simp); have HB2 := Lib.hid B2; have R2 : Row w2 wo.heap.size n (bc (nextQB L r 0 0)) := (((Row.of_owns own2).mono (M := n) (by omega)).congr fun j hj => (by rw [made_at _ _ _ (by omega)]; simp [Value.cells, Nat.mod_one, bc, nextQ_zero])); have HR2 := Lib.hid R2; clear B2 R2 own2 gr2)
      have HRN2 := Lib.hid (HRN.out.below HB2.out hgnl)
      have HO2 := Lib.hid (HO.out.below HB2.out)
      have HBw := Lib.hid (HB.out.trans (HB2.out.mono HB.out.size))
      have FB2 : Hid (∀ wk, OnlyB wo.heap.size w2 wk → Below W.heap.size W wk) := Lib.hid (fun wk h => HBw.out.trans (h.toBelow HB.out.size HBw.out.size))
      have hx1 : gn ≠ wo.heap.size := by omega
      have hx2 : go ≠ wo.heap.size := by omega
      generalize hgx : wo.heap.size = gx at *
      have HGX := Lib.hid hgx
      clear hgx
      go_loopw [6, 29] (fun e i wk => ∃ q : Nat, q ≤ n ∧ i = .int .i64 q ∧ e = .bool (endQB L r q) ∧ Row wk gx n (bc (nextQB L r q 0)) ∧ OnlyB gx w2 wk) (fun _ i _ => n - (intOf i).toNat)
      case atStart => exact ⟨0, Nat.zero_le _, rfl, by rw [endQ_zero], HR2.out, OnlyB.refl _ _⟩
      case round =>
        obtain ⟨q, hq, rfl, rfl, h3, h4⟩ := hrel
        rename World => wi
        have HRX := Lib.hid h3
        have HOX := Lib.hid h4
        clear h3 h4
        have hFB := FB2.out _ HOX.out
        by_cases hlq : q < n
        · have c1 := (HOX.out.row HRN2.out hx1).cell hlq
          unfold bc at c1
          obtain ⟨g, α, C, rfl, lg, r0, hC, s0⟩ := HR0.out.at hlq
          have r1 := (hFB.cell (p := ⟨g, q, none⟩) lg).trans r0
          have cP2 := (hFB.cell (p := ⟨bx, 0, none⟩) (by show bx < _; omega)).trans HC0.out
          have S0 := Lib.hid s0
          have hlen : lenN L q ≤ 4 := (HS.out.2 q hlq).1
          generalize hml : lenN L q = ml at *
          have HM := Lib.hid hml
          clear hml r0 s0
          cases hft : frB L r q
          · have HE1 := Lib.hid (endQ_no hft)
            have HN1 := Lib.hid (nextQ_no hft)
            rw [hft] at c1
            clear hft
            go_wp2
            go_roundw
            case rel => exact ⟨q + 1, by omega, by go_num, by rw [HE1.out], HRX.out.congr (fun i _ => congrArg Value.bool (HN1.out i).symm), HOX.out⟩
            case measure => simp [intOf]; omega
          · have HFT := Lib.hid hft
            rw [hft] at c1
            clear hft
            cases he0 : endQB L r q
            · have HE0 := Lib.hid he0
              clear he0
              by_cases h0 : ml = 0
              · skip
                have h0' : ((ml : Int) == 0) = true := by simp; omega
                have HEN : Hid (endQB L r (q + 1) = true) := Lib.hid (by rw [endQ_yes HFT.out, HE0.out, HM.out, decide_eq_true h0]; rfl)
                clear h0
                go_wp2
                go_loopw [51] (fun i wr3 => ∃ j : Nat, j ≤ ml ∧ i = .int .i64 j ∧ Row wr3 gx n (bc (nextQB L r q j)) ∧ OnlyB gx w2 wr3) (fun i _ => ml - (intOf i).toNat)
                case atStart => exact ⟨0, Nat.zero_le _, rfl, HRX.out, HOX.out⟩
                case round =>
                  obtain ⟨j, hj, rfl, h3, h4⟩ := hrel
                  rename World => wk
                  have HRK := Lib.hid h3
                  have HOK := Lib.hid h4
                  clear h3 h4
                  have hFK := FB2.out _ HOK.out
                  by_cases hlj : j < ml
                  · obtain ⟨g3, rfl, hr3⟩ := (S0.out.below hFK).row (by omega)
                    have c2 := hr3.cell hlj
                    unfold ic at c2
                    obtain ⟨he, hx⟩ := edge_nx HS.out hlq (q := j) (by rw [HM.out]; exact hlj)
                    rw [hx] at c2
                    have hyn := edge_lt HS.out hlq he
                    have HST := Lib.hid (nextQ_step (k := r) (q := q) (i := j) HFT.out)
                    have c3 := HRK.out.cell hyn
                    have f3 := HRK.out.frozen (nx L q j)
                    unfold bc at c3
                    have HSET := Lib.hid (bc_set (k := nx L q j) (v := true) HRK.out)
                    clear hx he hr3 hFK
                    generalize nx L q j = y at *
                    generalize nextQB L r q j y = tb at *
                    have y0 : (0 : Int) ≤ (y : Int) := Int.natCast_nonneg _
                    have y1 : (y : Int) < (n : Int) := by omega
                    go_wp2
                    go_roundw
                    case rel => exact ⟨j + 1, by omega, by go_num, HSET.out.congr (fun i _ => congrArg Value.bool (HST.out i).symm), HOK.out.set y _⟩
                    case measure => simp [intOf]; omega
                  · have hj' : j = ml := by omega
                    subst hj'
                    have HNR := Lib.hid (nextQ_row (k := r) HS.out hlq HFT.out)
                    rw [HM.out] at HNR
                    go_wp2
                    go_roundw
                    case rel => exact ⟨q + 1, by omega, by go_num, by rw [HEN.out], HRK.out.congr (fun i _ => congrArg Value.bool (HNR.out i)), HOK.out⟩
                    case measure => simp [intOf]; omega
              · skip
                have h0' : ((ml : Int) == 0) = false := by simp; omega
                have HEN : Hid (endQB L r (q + 1) = false) := Lib.hid (by rw [endQ_yes HFT.out, HE0.out, HM.out, decide_eq_false h0]; rfl)
                go_wp2
                go_loopw [51] (fun i wr3 => ∃ j : Nat, j ≤ ml ∧ i = .int .i64 j ∧ Row wr3 gx n (bc (nextQB L r q j)) ∧ OnlyB gx w2 wr3) (fun i _ => ml - (intOf i).toNat)
                case atStart => exact ⟨0, Nat.zero_le _, rfl, HRX.out, HOX.out⟩
                case round =>
                  obtain ⟨j, hj, rfl, h3, h4⟩ := hrel
                  rename World => wk
                  have HRK := Lib.hid h3
                  have HOK := Lib.hid h4
                  clear h3 h4
                  have hFK := FB2.out _ HOK.out
                  by_cases hlj : j < ml
                  · obtain ⟨g3, rfl, hr3⟩ := (S0.out.below hFK).row (by omega)
                    have c2 := hr3.cell hlj
                    unfold ic at c2
                    obtain ⟨he, hx⟩ := edge_nx HS.out hlq (q := j) (by rw [HM.out]; exact hlj)
                    rw [hx] at c2
                    have hyn := edge_lt HS.out hlq he
                    have HST := Lib.hid (nextQ_step (k := r) (q := q) (i := j) HFT.out)
                    have c3 := HRK.out.cell hyn
                    have f3 := HRK.out.frozen (nx L q j)
                    unfold bc at c3
                    have HSET := Lib.hid (bc_set (k := nx L q j) (v := true) HRK.out)
                    clear hx he hr3 hFK
                    generalize nx L q j = y at *
                    generalize nextQB L r q j y = tb at *
                    have y0 : (0 : Int) ≤ (y : Int) := Int.natCast_nonneg _
                    have y1 : (y : Int) < (n : Int) := by omega
                    go_wp2
                    go_roundw
                    case rel => exact ⟨j + 1, by omega, by go_num, HSET.out.congr (fun i _ => congrArg Value.bool (HST.out i).symm), HOK.out.set y _⟩
                    case measure => simp [intOf]; omega
                  · have hj' : j = ml := by omega
                    subst hj'
                    have HNR := Lib.hid (nextQ_row (k := r) HS.out hlq HFT.out)
                    rw [HM.out] at HNR
                    go_wp2
                    go_roundw
                    case rel => exact ⟨q + 1, by omega, by go_num, by rw [HEN.out], HRK.out.congr (fun i _ => congrArg Value.bool (HNR.out i)), HOK.out⟩
                    case measure => simp [intOf]; omega
            · have HE0 := Lib.hid he0
              clear he0
              have HEN : Hid (endQB L r (q + 1) = true) := Lib.hid (by rw [endQ_yes HFT.out, HE0.out]; rfl)
              go_wp2
              go_loopw [51] (fun i wr3 => ∃ j : Nat, j ≤ ml ∧ i = .int .i64 j ∧ Row wr3 gx n (bc (nextQB L r q j)) ∧ OnlyB gx w2 wr3) (fun i _ => ml - (intOf i).toNat)
              case atStart => exact ⟨0, Nat.zero_le _, rfl, HRX.out, HOX.out⟩
              case round =>
                obtain ⟨j, hj, rfl, h3, h4⟩ := hrel
                rename World => wk
                have HRK := Lib.hid h3
                have HOK := Lib.hid h4
                clear h3 h4
                have hFK := FB2.out _ HOK.out
                by_cases hlj : j < ml
                · obtain ⟨g3, rfl, hr3⟩ := (S0.out.below hFK).row (by omega)
                  have c2 := hr3.cell hlj
                  unfold ic at c2
                  obtain ⟨he, hx⟩ := edge_nx HS.out hlq (q := j) (by rw [HM.out]; exact hlj)
                  rw [hx] at c2
                  have hyn := edge_lt HS.out hlq he
                  have HST := Lib.hid (nextQ_step (k := r) (q := q) (i := j) HFT.out)
                  have c3 := HRK.out.cell hyn
                  have f3 := HRK.out.frozen (nx L q j)
                  unfold bc at c3
                  have HSET := Lib.hid (bc_set (k := nx L q j) (v := true) HRK.out)
                  clear hx he hr3 hFK
                  generalize nx L q j = y at *
                  generalize nextQB L r q j y = tb at *
                  have y0 : (0 : Int) ≤ (y : Int) := Int.natCast_nonneg _
                  have y1 : (y : Int) < (n : Int) := by omega
                  go_wp2
                  go_roundw
                  case rel => exact ⟨j + 1, by omega, by go_num, HSET.out.congr (fun i _ => congrArg Value.bool (HST.out i).symm), HOK.out.set y _⟩
                  case measure => simp [intOf]; omega
                · have hj' : j = ml := by omega
                  subst hj'
                  have HNR := Lib.hid (nextQ_row (k := r) HS.out hlq HFT.out)
                  rw [HM.out] at HNR
                  go_wp2
                  go_roundw
                  case rel => exact ⟨q + 1, by omega, by go_num, by rw [HEN.out], HRK.out.congr (fun i _ => congrArg Value.bool (HNR.out i)), HOK.out⟩
                  case measure => simp [intOf]; omega
        · have hq' : q = n := by omega
          subst hq'
          have HEA := Lib.hid (endQ_all HS.out r)
          have HNA := Lib.hid (nextQ_all HS.out r)
          have HOk := Lib.hid (HO2.out.keep HOX.out hx2)
          have HSU := Lib.hid (ebL_succ L r)
          have hgk := HOk.out.lt
          rw [HEA.out]
          generalize hev : ebB L r = ev at *
          go_wp2_with (at_builtin; refine append_one rfl _ _ 47 rfl Try.underlying47 infoBool rfl (by omega) rfl (HOk.out.alloc _) (by omega) rfl (new_cell (by simp)) rfl ?_; intro g' c' w5 o5 oo5 l5; have O5 := Lib.hid o5; have OO5 := Lib.hid oo5; have L5 := Lib.hid l5; clear o5 oo5 l5)
          go_roundw
          case rel =>
            have b2 := hFB.alloc (o := .cells #[.bool ev] 4 (0, 0)) hFB.size
            have hgxl := HRX.out.lt
            refine ⟨r + 1, gx, g', c', by omega, by go_num, rfl, rfl, (OO5.out.row (HRX.out.below (Below.box wi _) hgxl) (Ne.symm hx2)).congr (fun i _ => congrArg Value.bool (HNA.out i)), by have := HGX.out; have := HB.out.size; omega, ?_, by rw [HSU.out]; exact O5.out, b2.trans (OO5.out.toBelow hgk.1 b2.size)⟩
            rcases L5.out with h | h
            · omega
            · simp at h; omega
          case measure => simp [intOf]; omega
    · have hr' : r = n := by omega
      subst hr'
      have HRES : Hid (Row wo go r (bc (ebB L))) := Lib.hid (HO.out.row.congr fun i hi => by unfold ebL bc; simp [List.getD, hi])
      go_wp2
      go_ret
      exact ⟨go, co, rfl, HRES.out, FIN.out _ HB.out⟩
end Go.Proofs.Ytjnjlpljakkakaa
