/-
  Contracts of eqCut and eqCutS: two slices of the same cuts are equal.
  By an AI agent.
-/
import Derived.Test.YtlplfpoggifadaaCutT
namespace Go.Proofs.Ytlplfpoggifadaa
open Go.ChangeShapes Go.WideShapes Go.ChangeAt Go.RowKit Go.Joins Go.Deep
set_option maxRecDepth 100000
set_option linter.unusedVariables false

theorem eqCut_same (k g s : Int) (w : World) :
    Calls Try.prog 42 #[.agg #[.int .i64 k, .int .i64 g, .int .i64 s], .agg #[.int .i64 k, .int .i64 g, .int .i64 s]] w fun e w' => e = .returned (.bool true) ∧ Below w.heap.size w w' := by
  go_enter Try.func42, Try.ntmps42
  go_wp2
  go_ret
  exact ⟨rfl, (by (repeat' (first | exact Below.refl _ _ | refine Below.drew ?_ | refine Below.setCell ?_ ?_ _ | refine Below.alloc ?_ ?_ _)) <;> (first | (simp; done) | (simp; omega)))⟩

/-- Two cuts in memory, o cells from the heads of their blocks; below W's size nothing has turned since W. -/
def TwoC (W : World) (ga gb o : Nat) (k g s : Int) (w' : World) : Prop :=
  (w'.cell? ⟨ga, o, none⟩ = some (.int .i64 k) ∧ w'.cell? ⟨ga, o + 1, none⟩ = some (.int .i64 g) ∧ w'.cell? ⟨ga, o + 2, none⟩ = some (.int .i64 s) ∧
   w'.cell? ⟨gb, o, none⟩ = some (.int .i64 k) ∧ w'.cell? ⟨gb, o + 1, none⟩ = some (.int .i64 g) ∧ w'.cell? ⟨gb, o + 2, none⟩ = some (.int .i64 s)) ∧ Hid (Below W.heap.size W w')
theorem TwoC.next {W w1 w2 : World} {ga gb o : Nat} {k g s : Int} (h : TwoC W ga gb o k g s w1) (hb : Below w1.heap.size w1 w2) : TwoC W ga gb o k g s w2 := by
  obtain ⟨⟨c0, c1, c2, d0, d1, d2⟩, hB⟩ := h
  have ha : ga < w1.heap.size := World.block_lt_of_cell? _ _ c0
  have hg : gb < w1.heap.size := World.block_lt_of_cell? _ _ d0
  exact ⟨⟨(hb.cell (p := ⟨ga, o, none⟩) ha).trans c0, (hb.cell (p := ⟨ga, o + 1, none⟩) ha).trans c1, (hb.cell (p := ⟨ga, o + 2, none⟩) ha).trans c2,
    (hb.cell (p := ⟨gb, o, none⟩) hg).trans d0, (hb.cell (p := ⟨gb, o + 1, none⟩) hg).trans d1, (hb.cell (p := ⟨gb, o + 2, none⟩) hg).trans d2⟩, Lib.hid (hB.out.trans (hb.mono hB.out.size))⟩
theorem eqCutS_same (ga gb n ca cb : Nat) (ps : List DCut) (w : World) (hl : ps.length = n) (hm : n ≤ 1048576) (hA : Row w ga (n * 3) (cc ps)) (hB : Row w gb (n * 3) (cc ps)) :
    Calls Try.prog 13 #[.slice (some ⟨ga, 0, none⟩) n ca, .slice (some ⟨gb, 0, none⟩) n cb] w fun e w' => e = .returned (.bool true) ∧ Below w.heap.size w w' := by
  have HA := Lib.hid hA
  have HB := Lib.hid hB
  clear hA hB hl
  go_enter Try.func13, Try.ntmps13
  go_wp2
  go_loopw [5] (fun i wr => ∃ k : Nat, k ≤ n ∧ i = .int .i64 k ∧ Below w.heap.size w wr) (fun i _ => n - (intOf i).toNat)
  case atStart => exact ⟨0, Nat.zero_le _, rfl, Below.refl _ _⟩
  case round =>
    obtain ⟨k, hk, rfl, hb⟩ := hrel
    have Hb := Lib.hid hb
    clear hb
    by_cases hlt : k < n
    · obtain ⟨c0, c1, c2⟩ := (HA.out.below Hb.out HA.out.lt).cut hlt
      obtain ⟨d0, d1, d2⟩ := (HB.out.below Hb.out HB.out.lt).cut hlt
      generalize ps.getD k default = q at c0 c1 c2 d0 d1 d2
      obtain ⟨qk, qg, qs⟩ := q
      simp only at c0 c1 c2 d0 d1 d2
      have i0 : (0 : Int) ≤ (k : Int) := Int.natCast_nonneg _
      have i1 : (k : Int) < (n : Int) := by omega
      have hSd : TwoC wr ga gb (k * 3) qk qg qs wr.drew := ⟨⟨c0, c1, c2, d0, d1, d2⟩, Lib.hid (Below.refl _ _).drew⟩
      have HSd := Lib.hid hSd
      clear hSd
      go_wp2
      go_region_held3 (fun w' => (w'.cell? ⟨ga, k * 3, none⟩ = some (.int .i64 qk) ∧ w'.cell? ⟨ga, k * 3 + 1, none⟩ = some (.int .i64 qg) ∧ w'.cell? ⟨ga, k * 3 + 2, none⟩ = some (.int .i64 qs) ∧
        w'.cell? ⟨gb, k * 3, none⟩ = some (.int .i64 qk) ∧ w'.cell? ⟨gb, k * 3 + 1, none⟩ = some (.int .i64 qg) ∧ w'.cell? ⟨gb, k * 3 + 2, none⟩ = some (.int .i64 qs)) ∧ Hid (Below wr.heap.size wr w'))
        (first | exact HSd.out | exact hS2.out | (go_keep; done))
        (first | (go_at_call 42; refine (eqCut_same _ _ _ _).mono ?_; rintro e w2 ⟨rfl, hb2⟩; have hS2 := Lib.hid (TwoC.next (W := wr) (ga := ga) (gb := gb) (o := k * 3) (k := qk) (g := qg) (s := qs) (by assumption) hb2)))
      have HX := Lib.hid (Hb.out.trans (hS2.out.2.out.mono Hb.out.size))
      go_wp2
      go_roundw
      case rel => exact ⟨k + 1, by omega, by go_num, HX.out⟩
      case measure => simp [intOf]; omega
    · go_wp2
      go_ret
      exact ⟨rfl, Hb.out⟩
end Go.Proofs.Ytlplfpoggifadaa
