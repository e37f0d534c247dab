/-
  Contracts of CutRuns in the program and in the reference.
  By an AI agent.
-/
import Derived.Test.YtlplfpoggifadaaRuns
namespace Go.Proofs.Ytlplfpoggifadaa
open Go.ChangeShapes Go.WideShapes Go.ChangeAt Go.RowKit Go.Joins Go.Deep
set_option maxRecDepth 100000
set_option linter.unusedVariables false

theorem Bld.lastAt {w : World} {lo g cp : Nat} {R : Rows} {a b : Int} {A : Nat → Nat} (h : Bld w lo g cp (R ++ [[a, b]]) A) :
    w.cell? ⟨g, R.length, none⟩ = some (.slice (some ⟨A R.length, 0, none⟩) 2 2) ∧ w.cell? ⟨A R.length, 1, none⟩ = some (.int .i64 b) ∧ w.frozen? ⟨A R.length, 1, none⟩ = false := by
  have hl : R.length < (R ++ [[a, b]]).length := by rw [List.length_append, List.length_singleton]; omega
  have hr := (h.rows _ hl).2
  unfold lenN at hr
  rw [rowN_last] at hr
  refine ⟨?_, hr.cell (i := 1) (by simp), hr.frozen 1⟩
  rw [h.own.row.cell (i := R.length) hl]
  unfold hdv
  simp [List.getD, crow, lenN, rowN_last]
theorem Bld.setLast {w : World} {lo g cp : Nat} {R : Rows} {a b : Int} {A : Nat → Nat} (h : Bld w lo g cp (R ++ [[a, b]]) A) (x : Int) :
    Bld (w.setCell ⟨A R.length, 1, none⟩ (.int .i64 x)) lo g cp (R ++ [[a, x]]) A := by
  have hl : R.length < (R ++ [[a, b]]).length := by rw [List.length_append, List.length_singleton]; omega
  obtain ⟨⟨h1, h2, h3, h4⟩, h5⟩ := h.rows _ hl
  unfold lenN at h5
  rw [rowN_last] at h5
  have hh : hdv A (R ++ [[a, x]]) = hdv A (R ++ [[a, b]]) := by
    unfold hdv
    rw [List.length_append, List.length_append]
    refine List.map_congr_left fun i hi => ?_
    have hi' := List.mem_range.1 hi
    simp only [List.length_singleton] at hi'
    unfold crow lenN
    by_cases e : i = R.length
    · subst e; rw [rowN_last, rowN_last]; rfl
    · rw [rowN_app (by omega), rowN_app (by omega)]
  refine ⟨?_, fun i hi => ?_⟩
  · rw [hh]
    have := h.own.set_other (p := ⟨A R.length, 1, none⟩) (by show g ≠ A R.length; omega) (.int .i64 x)
    rw [List.length_append] at this ⊢
    exact this
  · rw [List.length_append, List.length_singleton] at hi
    by_cases e : i = R.length
    · subst e
      refine ⟨⟨h1, by simpa using h2, h3, h4⟩, ?_⟩
      unfold lenN
      rw [rowN_last]
      refine (h5.set 1 _).congr fun j hj => ?_
      have : j = 0 ∨ j = 1 := by have : j < 2 := hj; omega
      rcases this with rfl | rfl <;> rfl
    · obtain ⟨⟨k1, k2, k3, k4⟩, k5⟩ := h.rows i (by rw [List.length_append, List.length_singleton]; omega)
      refine ⟨⟨k1, by simpa using k2, k3, k4⟩, ?_⟩
      unfold lenN at k5 ⊢
      rw [rowN_app (by omega)] at k5 ⊢
      exact k5.set_other (by show A i ≠ A R.length; exact h4 i (by omega)) _
theorem Bld.getR {w w' : World} {lo g cp : Nat} {R : Rows} {A : Nat → Nat} (h : Bld w' lo g cp R A) (hlo : w.heap.size ≤ lo) (hb : Below w.heap.size w w') : GetR R w (.returned (.slice (some ⟨g, 0, none⟩) R.length cp)) w' :=
  ⟨_, _, rfl, .inr ⟨g, rfl, h.ost.mono hlo⟩, hb⟩
theorem pair_row (w : World) (x y : Int) : Row ((w.alloc (.cells #[.int .i64 x, .int .i64 y] 3 (0, 0))).alloc (.cells #[.slice (some ⟨w.heap.size, 0, none⟩) 2 2] 37 (0, 0))) w.heap.size 2 (ic [x, y]) :=
  ((Row.of_new w #[.int .i64 x, .int .i64 y] 3).alloc _).congr fun i hi => by
    have hi2 : i = 0 ∨ i = 1 := by simp at hi; omega
    rcases hi2 with rfl | rfl <;> rfl
theorem pair_cell (w : World) (x y : Int) : ((w.alloc (.cells #[.int .i64 x, .int .i64 y] 3 (0, 0))).alloc (.cells #[.slice (some ⟨w.heap.size, 0, none⟩) 2 2] 37 (0, 0))).cell? ⟨w.heap.size + 1, 0, none⟩ = some (.slice (some ⟨w.heap.size, 0, none⟩) 2 2) := new_cell (by simp)
theorem pair_below (w : World) (x y : Int) : Below w.heap.size w ((w.alloc (.cells #[.int .i64 x, .int .i64 y] 3 (0, 0))).alloc (.cells #[.slice (some ⟨w.heap.size, 0, none⟩) 2 2] 37 (0, 0))) := (Below.box w _).alloc (by simp) _
theorem pair_size (w : World) (x y : Int) : ((w.alloc (.cells #[.int .i64 x, .int .i64 y] 3 (0, 0))).alloc (.cells #[.slice (some ⟨w.heap.size, 0, none⟩) 2 2] 37 (0, 0))).heap.size = w.heap.size + 2 := by simp
theorem w64n (q : Nat) (h : q ≤ 1000) : IntKind.i64.wrap ((q : Int) + 1) = ((q + 1 : Nat) : Int) ∧ wrap64 ((q : Int) + 1) = ((q + 1 : Nat) : Int) := by
  rw [show (q : Int) + 1 = ((q + 1 : Nat) : Int) by omega]
  exact ⟨IntWalk.i64_in _ (by omega), IntWalk.wrap64_in _ (by omega)⟩
theorem w64i (y : Int) (h : 0 ≤ y ∧ y ≤ 1000) : IntKind.i64.wrap (y + 1) = y + 1 := IntWalk.i64_in _ (by omega)
/-- A slice's block is none of the rows of a list that grows. -/
def NEb (a : Option Addr) (n g : Nat) (A : Nat → Nat) (len : Nat) : Prop := ∀ b, a = some b → n ≠ 0 → b.block ≠ g ∧ ∀ i, i < len → b.block ≠ A i
set_option maxHeartbeats 2000000 in
theorem iCutRuns_any (s t : ByteArray) (N : Nat) (w : World) (h : Two s t N) :
    Calls Try.prog 41 #[.string s, .string t] w (GetR (runsL (dfL s t N)) w) := by
  have hn := h.n16
  have HT := Lib.hid h
  have B0 := Below.box w (.cells #[] 37 (0, 0))
  have HS0 := Lib.hid (Bld.start w)
  have HB0 := Lib.hid B0
  have hll := dfL_len s t N
  obtain ⟨L, hL⟩ : ∃ L, dfL s t N = L := ⟨_, rfl⟩
  rw [hL] at hll ⊢
  have HL := Lib.hid hL
  clear h B0 hL
  go_enter Try.func41, Try.ntmps41
  go_wp2_with fail
  generalize w.alloc (.cells #[] 37 (0, 0)) = w1 at *
  refine (iCutsBetween_any s t N w1 HT.out).mono ?_
  rw [HL.out]
  rintro e w2 ⟨aL, cL, rfl, hr, hf, hb⟩
  have HR := Lib.hid hr
  have HS2 := Lib.hid (HS0.out.below hb)
  have HB2 := Lib.hid (HB0.out.trans (hb.mono HB0.out.size))
  have hlo : w.heap.size ≤ w2.heap.size := HB2.out.size
  have HNE : Hid (NEb aL L.length w.heap.size (fun _ => 0) 0) := Lib.hid (fun b hb hn => by
    rcases hf with h0 | ⟨g, hg, hB⟩
    · exact absurd h0 hn
    · rw [hg] at hb
      simp only [Option.some.injEq] at hb
      subst hb
      have := HS0.out.own.lt
      exact ⟨by show g ≠ _; omega, fun i hi => absurd hi (Nat.not_lt_zero i)⟩)
  have HFR : Hid (∀ i, i < L.length → 0 ≤ L.getD i 0 ∧ L.getD i 0 < (N : Int)) := Lib.hid (fun i hi => by rw [← HL.out] at hi ⊢; exact fl_bd hi)
  clear hr hb HS0 HB0 hf
  generalize hlo' : w.heap.size = lo at *
  have HLO := Lib.hid hlo'
  clear hlo'
  go_wp2_with fail
  go_loopw [5, 14] (fun v i wr => ∃ (k g1 c1 : Nat) (A : Nat → Nat), k ≤ L.length ∧ i = .int .i64 k ∧ v = .slice (some ⟨g1, 0, none⟩) (rnR L k).length c1 ∧ Bld wr lo g1 c1 (rnR L k) A ∧ Below lo w wr ∧ SlR wr aL L.length (ic L) ∧ NEb aL L.length g1 A (rnR L k).length) (fun _ i _ => L.length - (intOf i).toNat)
  case atStart => exact ⟨0, _, 0, _, Nat.zero_le _, rfl, rfl, HS2.out, HB2.out, HR.out, HNE.out⟩
  case round =>
    clear HS2 HB2 HR HNE
    obtain ⟨k, g1, c1, A, hk, rfl, rfl, hbd, hB, hsl, hne⟩ := hrel
    have H1 := Lib.hid hbd
    have HB := Lib.hid hB
    have HSL := Lib.hid hsl
    have hgw := hbd.own.lt
    clear hbd hB
    by_cases hlt : k < L.length
    · obtain ⟨gL, rfl, hrL⟩ := hsl.row (by omega)
      have HNE := Lib.hid (hne _ rfl (by omega))
      have hgLl := hrL.lt
      have c0 := hrL.cell hlt
      unfold ic at c0
      obtain ⟨x0, x1⟩ := HFR.out k hlt
      obtain ⟨x, hx⟩ : ∃ x, L.getD k 0 = x := ⟨_, rfl⟩
      rw [hx] at c0 x0 x1
      have HX := Lib.hid hx
      have i0 : (0 : Int) ≤ (k : Int) := Int.natCast_nonneg _
      have i1 : (k : Int) < (L.length : Int) := by omega
      clear hsl hrL hx hne
      by_cases hk0 : k = 0
      · have HR1 : Hid (rnR L 1 = [[x, x]]) := Lib.hid (by rw [← HX.out, hk0]; rfl)
        have h1 := H1.out
        have hn0 := HNE.out
        rw [hk0, show rnR L 0 = [] from rfl] at h1 hn0
        replace H1 := Lib.hid h1
        replace HNE := Lib.hid hn0
        have HLN : Hid (([] : Rows).length = 0) := Lib.hid rfl
        rw [show (rnR L k).length = 0 by rw [hk0]; rfl]
        have HK := Lib.hid hk0
        clear h1 hk0 hn0
        have HOWN : Hid (Own1 ((wr.alloc (.cells #[.int .i64 x, .int .i64 x] 3 (0, 0))).alloc (.cells #[.slice (some ⟨wr.heap.size, 0, none⟩) 2 2] 37 (0, 0))) lo 37 g1 0 c1 (hdv A ([] : Rows))) := Lib.hid (by have := (H1.out.own.alloc (.cells #[.int .i64 x, .int .i64 x] 3 (0, 0))).alloc (.cells #[.slice (some ⟨wr.heap.size, 0, none⟩) 2 2] 37 (0, 0)); rw [HLN.out] at this; exact this)
        have HCEL := Lib.hid (pair_cell wr x x)
        have HXR := Lib.hid (pair_row wr x x)
        have HX2 := Lib.hid (pair_below wr x x)
        have HSZ2 := Lib.hid (pair_size wr x x)
        go_wp2_with (at_builtin; refine append_one rfl _ _ 56 rfl Try.underlying56 infoRowB rfl (by omega) rfl HOWN.out (by omega) rfl HCEL.out rfl ?_; intro g' c' w5 o5 oo5 l5; have O5 := Lib.hid o5; have OO5 := Lib.hid oo5; have L5 := Lib.hid l5; clear o5 oo5 l5)
        have hgl := H1.out.own.lt
        have hsz5 := OO5.out.size
        rw [HSZ2.out] at hsz5
        have HPU := Lib.hid (H1.out.push (r := [x, x]) HX2.out (Nat.le_refl _) HXR.out (by omega) (by rw [HLN.out]; exact O5.out) OO5.out L5.out)
        have HJ5 : Hid (Below lo w w5) := Lib.hid (HB.out.trans ((HX2.out.mono (by omega)).trans (OO5.out.toBelow (by omega) (by rw [HSZ2.out]; omega))))
        have HSL5 : Hid (SlR w5 (some ⟨gL, 0, none⟩) L.length (ic L)) := Lib.hid (OO5.out.sl (HSL.out.below HX2.out) (fun b hb _ => by simp only [Option.some.injEq] at hb; subst hb; show gL ≠ g1; exact HNE.out.1))
        have HNE5 : Hid (NEb (some ⟨gL, 0, none⟩) L.length g' (fun i => if i = ([] : Rows).length then wr.heap.size else A i) (0 + 1)) := Lib.hid (fun b hb _ => by
          simp only [Option.some.injEq] at hb
          subst hb
          refine ⟨?_, fun i hi => ?_⟩
          · show gL ≠ g'
            have h5 := L5.out
            rw [HSZ2.out] at h5
            have h6 : gL ≠ g1 := HNE.out.1
            omega
          · show gL ≠ (if i = ([] : Rows).length then wr.heap.size else A i)
            by_cases e : i = ([] : Rows).length
            · rw [if_pos e]; omega
            · rw [if_neg e]
              rw [HLN.out] at e
              exact HNE.out.2 i (by omega))
        have HBF : Hid (Bld w5 lo g' c' (rnR L 1) (fun i => if i = ([] : Rows).length then wr.heap.size else A i)) := Lib.hid (by rw [HR1.out]; exact HPU.out)
        go_roundw
        case rel =>
          have hk0 := HK.out
          exact ⟨1, g', c', _, by omega, by rw [hk0]; rfl, by rw [HR1.out]; rfl, HBF.out, HJ5.out, HSL5.out, by rw [HR1.out]; exact HNE5.out⟩
        case measure => have hk0 := HK.out; simp [intOf]; omega
      · obtain ⟨j, rfl⟩ : ∃ j, k = j + 1 := ⟨k - 1, by omega⟩
        obtain ⟨y0, y1⟩ := HFR.out j (by omega)
        have hR : rnR L (j + 1) = clR L j ++ [[L.getD (stR L j) 0, L.getD j 0]] := rfl
        have hQ : nxtQ L j ↔ L.getD (j + 1) 0 = L.getD j 0 + 1 := Iff.rfl
        have hM := rn_more (L := L) (k := j)
        have hN := rn_new (L := L) (k := j)
        have hN2 : rnR L (j + 2) = clR L (j + 1) ++ [[L.getD (stR L (j + 1)) 0, L.getD (j + 1) 0]] := rfl
        rw [HX.out] at hQ hM hN2
        obtain ⟨y, hy⟩ : ∃ y, L.getD j 0 = y := ⟨_, rfl⟩
        obtain ⟨fst, hfst⟩ : ∃ y, L.getD (stR L j) 0 = y := ⟨_, rfl⟩
        obtain ⟨R, hRR⟩ : ∃ y, clR L j = y := ⟨_, rfl⟩
        rw [hy] at y0 y1
        rw [hRR, hfst, hy] at hR
        rw [hRR, hfst] at hM
        rw [hy] at hQ
        obtain ⟨m, hm⟩ : ∃ m, R.length = m := ⟨_, rfl⟩
        have HLN : Hid ((R ++ [[fst, y]]).length = m + 1) := Lib.hid (by rw [List.length_append, hm]; rfl)
        have HLN2 : Hid ((R ++ [[fst, x]]).length = m + 1) := Lib.hid (by rw [List.length_append, hm]; rfl)
        have HLN3 : Hid ((R ++ [[fst, y]] ++ [[x, x]]).length = m + 1 + 1) := Lib.hid (by rw [List.length_append, HLN.out]; rfl)
        have h1 := H1.out
        have hn0 := HNE.out
        have hrl := rn_len L (j + 1)
        rw [hR] at h1 hrl
        rw [show (rnR L (j + 1)).length = m + 1 by rw [hR]; exact HLN.out] at hn0
        rw [HLN.out] at hrl
        replace H1 := Lib.hid h1
        replace HNE := Lib.hid hn0
        obtain ⟨d0, d1, d2⟩ := h1.lastAt
        have hset := h1.setLast x
        rw [hm] at d0 d1 d2 hset
        rw [show (rnR L (j + 1)).length = m + 1 by rw [hR]; exact HLN.out]
        have hAm := (h1.rows m (by rw [HLN.out]; omega)).1
        have HAM := Lib.hid hAm
        obtain ⟨M, hMe⟩ : ∃ M, M = m + 1 := ⟨_, rfl⟩
        have n1 : decide ((M : Int) > 0) = true := decide_eq_true (by omega)
        have n2 : IntKind.i64.wrap ((M : Int) - 1) = (m : Int) := by rw [show (M : Int) - 1 = (m : Int) by omega]; exact IntWalk.i64_in _ (by omega)
        have n2' : wrap64 ((M : Int) - 1) = (m : Int) := by rw [show (M : Int) - 1 = (m : Int) by omega]; exact IntWalk.wrap64_in _ (by omega)
        have n3 : (m : Int) < (M : Int) := by omega
        have n4 : (0 : Int) ≤ (m : Int) := Int.natCast_nonneg _
        have n5 : IntKind.i64.wrap (x - 1) = x - 1 := IntWalk.i64_in _ (by omega)
        have n6 : 0 < M := by omega
        have n8 : M ≤ 17 := by omega
        rw [← hMe]
        have HME := Lib.hid hMe
        clear h1 hRR hfst hy hMe hn0 hrl hAm
        by_cases hq : nxtQ L j
        · have HR2 := Lib.hid (hM hq)
          have e1 : (y == x - 1) = true := by have := hQ.1 hq; simp; omega
          have HS5 : Hid (Bld (wr.setCell ⟨A m, 1, none⟩ (.int .i64 x)) lo g1 c1 (R ++ [[fst, x]]) A) := Lib.hid hset
          have HB5 : Hid (Below lo w (wr.setCell ⟨A m, 1, none⟩ (.int .i64 x))) := Lib.hid (HB.out.setCell (by show lo ≤ A m; exact HAM.out.1) _)
          have HSL5 : Hid (SlR (wr.setCell ⟨A m, 1, none⟩ (.int .i64 x)) (some ⟨gL, 0, none⟩) L.length (ic L)) := Lib.hid (by
            rcases HSL.out with h | ⟨g, hg, hr⟩
            · exact .inl h
            · simp only [Option.some.injEq, Addr.mk.injEq, and_true] at hg
              subst hg
              exact .inr ⟨gL, rfl, hr.set_other (by show gL ≠ A m; exact HNE.out.2 m (by omega)) _⟩)
          clear hq hQ hM hN hN2 hR hm hset
          generalize hjj : j + 1 = k at *
          have HJJ := Lib.hid hjj
          clear hjj
          go_wp2
          go_roundw
          case rel => exact ⟨k + 1, g1, c1, A, by omega, by go_num, by rw [← HJJ.out, HR2.out, HLN2.out, HME.out], by rw [← HJJ.out, HR2.out]; exact HS5.out, HB5.out, HSL5.out, by rw [← HJJ.out, HR2.out, HLN2.out]; exact fun b hb _ => by simp only [Option.some.injEq] at hb; subst hb; exact HNE.out⟩
          case measure => simp [intOf]; omega
        · have e1 : (y == x - 1) = false := by
            have : ¬ y = x - 1 := fun e => hq (hQ.2 (by omega))
            simpa using this
          obtain ⟨g1', g2'⟩ := hN hq
          rw [g1', g2', hR, HX.out] at hN2
          have HR2 := Lib.hid hN2
          clear hq hQ hM hN hN2 hR hm hset g1' g2'
          generalize hjj : j + 1 = k at *
          have HJJ := Lib.hid hjj
          clear hjj
          have HOWN : Hid (Own1 ((wr.alloc (.cells #[.int .i64 x, .int .i64 x] 3 (0, 0))).alloc (.cells #[.slice (some ⟨wr.heap.size, 0, none⟩) 2 2] 37 (0, 0))) lo 37 g1 M c1 (hdv A (R ++ [[fst, y]]))) := Lib.hid (by have := (H1.out.own.alloc (.cells #[.int .i64 x, .int .i64 x] 3 (0, 0))).alloc (.cells #[.slice (some ⟨wr.heap.size, 0, none⟩) 2 2] 37 (0, 0)); rw [HLN.out, ← HME.out] at this; exact this)
          have HCEL := Lib.hid (pair_cell wr x x)
          have HXR := Lib.hid (pair_row wr x x)
          have HX2 := Lib.hid (pair_below wr x x)
          have HSZ2 := Lib.hid (pair_size wr x x)
          go_wp2_with (at_builtin; refine append_one rfl _ _ 56 rfl Try.underlying56 infoRowB rfl (by omega) rfl HOWN.out (by omega) rfl HCEL.out rfl ?_; intro g' c' w5 o5 oo5 l5; have O5 := Lib.hid o5; have OO5 := Lib.hid oo5; have L5 := Lib.hid l5; clear o5 oo5 l5)
          have hgl := H1.out.own.lt
          have hsz5 := OO5.out.size
          rw [HSZ2.out] at hsz5
          have HPU := Lib.hid (H1.out.push (r := [x, x]) HX2.out (Nat.le_refl _) HXR.out (by omega) (by rw [HLN.out, ← HME.out]; exact O5.out) OO5.out L5.out)
          have HJ5 : Hid (Below lo w w5) := Lib.hid (HB.out.trans ((HX2.out.mono (by omega)).trans (OO5.out.toBelow (by omega) (by rw [HSZ2.out]; omega))))
          have HSL5 : Hid (SlR w5 (some ⟨gL, 0, none⟩) L.length (ic L)) := Lib.hid (OO5.out.sl (HSL.out.below HX2.out) (fun b hb _ => by simp only [Option.some.injEq] at hb; subst hb; show gL ≠ g1; exact HNE.out.1))
          have HNE5 : Hid (NEb (some ⟨gL, 0, none⟩) L.length g' (fun i => if i = (R ++ [[fst, y]]).length then wr.heap.size else A i) ((m + 1) + 1)) := Lib.hid (fun b hb _ => by
            simp only [Option.some.injEq] at hb
            subst hb
            refine ⟨?_, fun i hi => ?_⟩
            · show gL ≠ g'
              have h5 := L5.out
              rw [HSZ2.out] at h5
              have h6 : gL ≠ g1 := HNE.out.1
              omega
            · show gL ≠ (if i = (R ++ [[fst, y]]).length then wr.heap.size else A i)
              by_cases e : i = (R ++ [[fst, y]]).length
              · rw [if_pos e]; omega
              · rw [if_neg e]
                rw [HLN.out] at e
                exact HNE.out.2 i (by omega))
          go_roundw
          case rel => exact ⟨k + 1, g', c', _, by omega, by go_num, by rw [← HJJ.out, HR2.out, List.length_append, HLN.out, HME.out]; rfl, by rw [← HJJ.out, HR2.out]; exact HPU.out, HJ5.out, HSL5.out, by rw [← HJJ.out, HR2.out, HLN3.out]; exact HNE5.out⟩
          case measure => simp [intOf]; omega
    · have hk' : L.length = k := by omega
      have i1 : ¬ (k : Int) < (L.length : Int) := by omega
      have HK := Lib.hid hk'
      clear hk' hsl hne
      go_wp2
      go_ret
      unfold runsL
      rw [HK.out]
      exact H1.out.getR (Nat.le_of_eq HLO.out) (by rw [HLO.out]; exact HB.out)
set_option maxHeartbeats 2000000 in
theorem sCutRuns_any (s t : ByteArray) (N : Nat) (w : World) (h : Two s t N) :
    Calls Try.prog 38 #[.string s, .string t] w (GetR (runsL (dfL s t N)) w) := by
  have hn := h.n16
  have HT := Lib.hid h
  have B0 := Below.box w (.cells #[] 37 (0, 0))
  have HS0 := Lib.hid (Bld.start w)
  have HB0 := Lib.hid B0
  have hll := dfL_len s t N
  obtain ⟨L, hL⟩ : ∃ L, dfL s t N = L := ⟨_, rfl⟩
  rw [hL] at hll ⊢
  have HL := Lib.hid hL
  clear h B0 hL
  go_enter Try.func38, Try.ntmps38
  go_wp2_with fail
  generalize w.alloc (.cells #[] 37 (0, 0)) = w1 at *
  refine (sCutsBetween_any s t N w1 HT.out).mono ?_
  rw [HL.out]
  rintro e w2 ⟨aL, cL, rfl, hr, hf, hb⟩
  have HR := Lib.hid hr
  have HS2 := Lib.hid (HS0.out.below hb)
  have HB2 := Lib.hid (HB0.out.trans (hb.mono HB0.out.size))
  have hlo : w.heap.size ≤ w2.heap.size := HB2.out.size
  have HNE : Hid (NEb aL L.length w.heap.size (fun _ => 0) 0) := Lib.hid (fun b hb hn => by
    rcases hf with h0 | ⟨g, hg, hB⟩
    · exact absurd h0 hn
    · rw [hg] at hb
      simp only [Option.some.injEq] at hb
      subst hb
      have := HS0.out.own.lt
      exact ⟨by show g ≠ _; omega, fun i hi => absurd hi (Nat.not_lt_zero i)⟩)
  have HFR : Hid (∀ i, i < L.length → 0 ≤ L.getD i 0 ∧ L.getD i 0 < (N : Int)) := Lib.hid (fun i hi => by rw [← HL.out] at hi ⊢; exact fl_bd hi)
  clear hr hb HS0 HB0 hf
  generalize hlo' : w.heap.size = lo at *
  have HLO := Lib.hid hlo'
  clear hlo'
  go_wp2_with fail
  go_loopw [5, 7] (fun v i wr => ∃ (k g1 c1 : Nat) (A : Nat → Nat), k ≤ L.length ∧ i = .int .i64 k ∧ v = .slice (some ⟨g1, 0, none⟩) (rnR L k).length c1 ∧ Bld wr lo g1 c1 (rnR L k) A ∧ Below lo w wr ∧ SlR wr aL L.length (ic L) ∧ NEb aL L.length g1 A (rnR L k).length ∧ (k < L.length → clR L k = rnR L k ∧ stR L k = k)) (fun _ i _ => L.length - (intOf i).toNat)
  case atStart => exact ⟨0, _, 0, _, Nat.zero_le _, rfl, rfl, HS2.out, HB2.out, HR.out, HNE.out, fun _ => ⟨rfl, rfl⟩⟩
  case round =>
    clear HS2 HB2 HR HNE
    obtain ⟨k, g1, c1, A, hk, rfl, rfl, hbd, hB, hsl, hne, hcl⟩ := hrel
    have H1 := Lib.hid hbd
    have HB := Lib.hid hB
    have HSL := Lib.hid hsl
    have hgw := hbd.own.lt
    clear hbd hB
    by_cases hlt : k < L.length
    · obtain ⟨gL, rfl, hrL⟩ := hsl.row (by omega)
      have HNE := Lib.hid (hne _ rfl (by omega))
      have hgLl := hrL.lt
      have c0 := hrL.cell hlt
      unfold ic at c0
      obtain ⟨x0, x1⟩ := HFR.out k hlt
      obtain ⟨hc1, hc2⟩ := hcl hlt
      obtain ⟨fst, hx⟩ : ∃ x, L.getD k 0 = x := ⟨_, rfl⟩
      rw [hx] at c0 x0 x1
      have HX := Lib.hid hx
      have i0 : (0 : Int) ≤ (k : Int) := Int.natCast_nonneg _
      have i1 : (k : Int) < (L.length : Int) := by omega
      clear hsl hrL hne hx
      obtain ⟨R, hRR⟩ : ∃ R, rnR L k = R := ⟨_, rfl⟩
      have h1 := H1.out
      have hn0 := HNE.out
      rw [hRR] at h1 hn0 hc1 ⊢
      replace H1 := Lib.hid h1
      replace HNE := Lib.hid hn0
      have HFS : Hid (clR L k = R ∧ L.getD (stR L k) 0 = fst) := Lib.hid ⟨hc1, by rw [hc2]; exact HX.out⟩
      have hbig : L.length ≤ 16 := by omega
      clear h1 hn0 hRR hc1 hc2 hcl
      go_wp2_with fail
      rename World => wo
      go_loopw [7] (fun i wi => ∃ q : Nat, k ≤ q ∧ q < L.length ∧ i = .int .i64 q ∧ clR L q = R ∧ L.getD (stR L q) 0 = fst ∧ Below wo.heap.size wo wi) (fun i _ => L.length - (intOf i).toNat)
      case atStart => exact ⟨k, Nat.le_refl _, hlt, rfl, HFS.out.1, HFS.out.2, Below.refl _ _⟩
      case round =>
        rename World => wi
        obtain ⟨q, hkq, hql, rfl, hq1, hq2, hbi⟩ := hrel
        have HBI := Lib.hid hbi
        have HQ := Lib.hid (⟨hq1, hq2⟩ : clR L q = R ∧ L.getD (stR L q) 0 = fst)
        have hsl := HSL.out.below hbi
        obtain ⟨gL', hgL, hrL⟩ := hsl.row (by omega)
        simp only [Option.some.injEq, Addr.mk.injEq, and_true] at hgL
        subst hgL
        have e0 := hrL.cell hql
        unfold ic at e0
        have j0 : (0 : Int) ≤ (q : Int) := Int.natCast_nonneg _
        have j1 : (q : Int) < (L.length : Int) := by omega
        obtain ⟨y0, y1⟩ := HFR.out q hql
        have HJ2 := Lib.hid (w64n q (by omega))
        clear hbi hq1 hq2 hsl
        by_cases hl2 : q + 1 < L.length
        · have e1 := hrL.cell hl2
          unfold ic at e1
          obtain ⟨z0, z1⟩ := HFR.out (q + 1) hl2
          have hQ : nxtQ L q ↔ L.getD (q + 1) 0 = L.getD q 0 + 1 := Iff.rfl
          obtain ⟨y, hy⟩ : ∃ y, L.getD q 0 = y := ⟨_, rfl⟩
          obtain ⟨z, hz⟩ : ∃ y, L.getD (q + 1) 0 = y := ⟨_, rfl⟩
          have HY := Lib.hid hy
          rw [hy] at e0 y0 y1
          rw [hz] at e1 z0 z1
          rw [hy, hz] at hQ
          have d1 : decide (((q + 1 : Nat) : Int) < (L.length : Int)) = true := decide_eq_true (by omega)
          have d2 : (0 : Int) ≤ ((q + 1 : Nat) : Int) := Int.natCast_nonneg _
          have d3 : ((q + 1 : Nat) : Int) < (L.length : Int) := by omega
          have hy16 : 0 ≤ y ∧ y ≤ 1000 := by omega
          have HD4 := Lib.hid (w64i y hy16)
          clear hrL hy hz
          by_cases hq : nxtQ L q
          · have d5 : (z == y + 1) = true := by have := hQ.1 hq; simp; omega
            have HN : Hid (clR L (q + 1) = R ∧ L.getD (stR L (q + 1)) 0 = fst) := Lib.hid (by
              have a1 : clR L (q + 1) = clR L q := if_pos hq
              have a2 : stR L (q + 1) = stR L q := if_pos hq
              rw [a1, a2]; exact HQ.out)
            clear hq hQ
            generalize hqq : q + 1 = q2 at *
            have HQQ := Lib.hid hqq
            clear hqq
            have HBW : Hid (∀ m, Below wo.heap.size wo (wi.drewN m)) := Lib.hid (fun m => below_drewN HBI.out m)
            obtain ⟨j2, j2'⟩ := HJ2.out
            have d4 := HD4.out
            go_wp2_with fail
            go_quiet (fail)
            have HBW := Lib.hid (HBW.out nq)
            go_wp2
            clear j2 j2' d4
            go_roundw
            case rel => exact ⟨q2, by have := HQQ.out; omega, hl2, by congr 1, HN.out.1, HN.out.2, HBW.out⟩
            case measure => have := HQQ.out; simp [intOf]; omega
          · have d5 : (z == y + 1) = false := by
              have : ¬ z = y + 1 := fun e => hq (hQ.2 e)
              simpa using this
            have HN : Hid (clR L (q + 1) = rnR L (q + 1) ∧ stR L (q + 1) = q + 1) := Lib.hid (rn_new hq)
            clear hq hQ
            have HYY : Hid (L.getD q 0 = y) := HY
            generalize hqq : q + 1 = q2 at *
            have HQQ := Lib.hid hqq
            clear hqq
            have HBW : Hid (∀ m, Below wo.heap.size wo (wi.drewN m)) := Lib.hid (fun m => below_drewN HBI.out m)
            obtain ⟨j2, j2'⟩ := HJ2.out
            have d4 := HD4.out
            go_wp2_with fail
            go_quiet (fail)
            have HBW := Lib.hid (HBW.out nq)
            clear j2 j2' d4
            have e0 : (wi.drewN nq).cell? ⟨gL, q, none⟩ = some (.int .i64 y) := e0
            have hgo := H1.out.own.lt
            have HSL := Lib.hid (HSL.out.below HBW.out)
            have HB := Lib.hid (HB.out.trans (HBW.out.mono (by omega)))
            have H1 := Lib.hid (H1.out.below HBW.out)
            have hwd := HBW.out.size
            have hrl := cl_len L k
            have hRl : R.length ≤ 16 := by have h := HFS.out.1; rw [h] at hrl; omega
            have HLN : Hid (R.length = R.length) := Lib.hid rfl
            clear HBW HBI
            generalize wi.drewN nq = wd at *
            have HOWN : Hid (Own1 ((wd.alloc (.cells #[.int .i64 fst, .int .i64 y] 3 (0, 0))).alloc (.cells #[.slice (some ⟨wd.heap.size, 0, none⟩) 2 2] 37 (0, 0))) lo 37 g1 R.length c1 (hdv A R)) := Lib.hid (by have := (H1.out.own.alloc (.cells #[.int .i64 fst, .int .i64 y] 3 (0, 0))).alloc (.cells #[.slice (some ⟨wd.heap.size, 0, none⟩) 2 2] 37 (0, 0)); exact this)
            have HCEL := Lib.hid (pair_cell wd fst y)
            have HXR := Lib.hid (pair_row wd fst y)
            have HX2 := Lib.hid (pair_below wd fst y)
            have HSZ2 := Lib.hid (pair_size wd fst y)
            go_wp2_with (at_builtin; refine append_one rfl _ _ 56 rfl Try.underlying56 infoRowB rfl (by omega) rfl HOWN.out (by omega) rfl HCEL.out rfl ?_; intro g' c' w5 o5 oo5 l5; have O5 := Lib.hid o5; have OO5 := Lib.hid oo5; have L5 := Lib.hid l5; clear o5 oo5 l5)
            have hgl := H1.out.own.lt
            have hsz5 := OO5.out.size
            rw [HSZ2.out] at hsz5
            have HPU := Lib.hid (H1.out.push (r := [fst, y]) HX2.out (Nat.le_refl _) HXR.out (by omega) O5.out OO5.out L5.out)
            have HJ5 : Hid (Below lo w w5) := Lib.hid (HB.out.trans ((HX2.out.mono (by omega)).trans (OO5.out.toBelow (by omega) (by rw [HSZ2.out]; omega))))
            have HSL5 : Hid (SlR w5 (some ⟨gL, 0, none⟩) L.length (ic L)) := Lib.hid (OO5.out.sl (HSL.out.below HX2.out) (fun b hb _ => by simp only [Option.some.injEq] at hb; subst hb; show gL ≠ g1; exact HNE.out.1))
            have HNE5 : Hid (NEb (some ⟨gL, 0, none⟩) L.length g' (fun i => if i = R.length then wd.heap.size else A i) (R.length + 1)) := Lib.hid (fun b hb _ => by
              simp only [Option.some.injEq] at hb
              subst hb
              refine ⟨?_, fun i hi => ?_⟩
              · show gL ≠ g'
                have h5 := L5.out
                rw [HSZ2.out] at h5
                have h6 : gL ≠ g1 := HNE.out.1
                omega
              · show gL ≠ (if i = R.length then wd.heap.size else A i)
                by_cases e : i = R.length
                · rw [if_pos e]; omega
                · rw [if_neg e]
                  exact HNE.out.2 i (by omega))
            have HRN : Hid (rnR L q2 = R ++ [[fst, y]]) := Lib.hid (by rw [← HQQ.out]; show clR L q ++ [[L.getD (stR L q) 0, L.getD q 0]] = _; rw [HQ.out.1, HQ.out.2, HYY.out])
            go_roundw
            case rel => exact ⟨q2, g', c', _, by have := HQQ.out; omega, by have := HQQ.out; congr 1; omega, by rw [HRN.out, List.length_append]; rfl, by rw [HRN.out]; exact HPU.out, HJ5.out, HSL5.out, by rw [HRN.out, List.length_append]; exact HNE5.out, fun _ => HN.out⟩
            case measure => have := HQQ.out; simp [intOf]; omega
        · have d1 : decide (((q + 1 : Nat) : Int) < (L.length : Int)) = false := decide_eq_false (by omega)
          obtain ⟨y, hy⟩ : ∃ y, L.getD q 0 = y := ⟨_, rfl⟩
          have HYY := Lib.hid hy
          rw [hy] at e0 y0 y1
          clear hrL hy
          have HN : Hid (q + 1 < L.length → clR L (q + 1) = rnR L (q + 1) ∧ stR L (q + 1) = q + 1) := Lib.hid (fun h => absurd h hl2)
          generalize hqq : q + 1 = q2 at *
          have HQQ := Lib.hid hqq
          clear hqq
          have HBW : Hid (∀ m, Below wo.heap.size wo (wi.drewN m)) := Lib.hid (fun m => below_drewN HBI.out m)
          obtain ⟨j2, j2'⟩ := HJ2.out
          go_wp2_with fail
          go_quiet (fail)
          have HBW := Lib.hid (HBW.out nq)
          clear j2 j2'
          have e0 : (wi.drewN nq).cell? ⟨gL, q, none⟩ = some (.int .i64 y) := e0
          have hgo := H1.out.own.lt
          have HSL := Lib.hid (HSL.out.below HBW.out)
          have HB := Lib.hid (HB.out.trans (HBW.out.mono (by omega)))
          have H1 := Lib.hid (H1.out.below HBW.out)
          have hwd := HBW.out.size
          have hrl := cl_len L k
          have hRl : R.length ≤ 16 := by have h := HFS.out.1; rw [h] at hrl; omega
          have HLN : Hid (R.length = R.length) := Lib.hid rfl
          clear HBW HBI
          generalize wi.drewN nq = wd at *
          have HOWN : Hid (Own1 ((wd.alloc (.cells #[.int .i64 fst, .int .i64 y] 3 (0, 0))).alloc (.cells #[.slice (some ⟨wd.heap.size, 0, none⟩) 2 2] 37 (0, 0))) lo 37 g1 R.length c1 (hdv A R)) := Lib.hid (by have := (H1.out.own.alloc (.cells #[.int .i64 fst, .int .i64 y] 3 (0, 0))).alloc (.cells #[.slice (some ⟨wd.heap.size, 0, none⟩) 2 2] 37 (0, 0)); exact this)
          have HCEL := Lib.hid (pair_cell wd fst y)
          have HXR := Lib.hid (pair_row wd fst y)
          have HX2 := Lib.hid (pair_below wd fst y)
          have HSZ2 := Lib.hid (pair_size wd fst y)
          go_wp2_with (at_builtin; refine append_one rfl _ _ 56 rfl Try.underlying56 infoRowB rfl (by omega) rfl HOWN.out (by omega) rfl HCEL.out rfl ?_; intro g' c' w5 o5 oo5 l5; have O5 := Lib.hid o5; have OO5 := Lib.hid oo5; have L5 := Lib.hid l5; clear o5 oo5 l5)
          have hgl := H1.out.own.lt
          have hsz5 := OO5.out.size
          rw [HSZ2.out] at hsz5
          have HPU := Lib.hid (H1.out.push (r := [fst, y]) HX2.out (Nat.le_refl _) HXR.out (by omega) O5.out OO5.out L5.out)
          have HJ5 : Hid (Below lo w w5) := Lib.hid (HB.out.trans ((HX2.out.mono (by omega)).trans (OO5.out.toBelow (by omega) (by rw [HSZ2.out]; omega))))
          have HSL5 : Hid (SlR w5 (some ⟨gL, 0, none⟩) L.length (ic L)) := Lib.hid (OO5.out.sl (HSL.out.below HX2.out) (fun b hb _ => by simp only [Option.some.injEq] at hb; subst hb; show gL ≠ g1; exact HNE.out.1))
          have HNE5 : Hid (NEb (some ⟨gL, 0, none⟩) L.length g' (fun i => if i = R.length then wd.heap.size else A i) (R.length + 1)) := Lib.hid (fun b hb _ => by
            simp only [Option.some.injEq] at hb
            subst hb
            refine ⟨?_, fun i hi => ?_⟩
            · show gL ≠ g'
              have h5 := L5.out
              rw [HSZ2.out] at h5
              have h6 : gL ≠ g1 := HNE.out.1
              omega
            · show gL ≠ (if i = R.length then wd.heap.size else A i)
              by_cases e : i = R.length
              · rw [if_pos e]; omega
              · rw [if_neg e]
                exact HNE.out.2 i (by omega))
          have HRN : Hid (rnR L q2 = R ++ [[fst, y]]) := Lib.hid (by rw [← HQQ.out]; show clR L q ++ [[L.getD (stR L q) 0, L.getD q 0]] = _; rw [HQ.out.1, HQ.out.2, HYY.out])
          go_roundw
          case rel => exact ⟨q2, g', c', _, by have := HQQ.out; omega, by have := HQQ.out; congr 1; omega, by rw [HRN.out, List.length_append]; rfl, by rw [HRN.out]; exact HPU.out, HJ5.out, HSL5.out, by rw [HRN.out, List.length_append]; exact HNE5.out, fun h => HN.out h⟩
          case measure => have := HQQ.out; simp [intOf]; omega
    · have hk' : L.length = k := by omega
      have i1 : ¬ (k : Int) < (L.length : Int) := by omega
      have HK := Lib.hid hk'
      clear hk' hsl hne hcl
      go_wp2
      go_ret
      unfold runsL
      rw [HK.out]
      exact H1.out.getR (Nat.le_of_eq HLO.out) (by rw [HLO.out]; exact HB.out)
end Go.Proofs.Ytlplfpoggifadaa
