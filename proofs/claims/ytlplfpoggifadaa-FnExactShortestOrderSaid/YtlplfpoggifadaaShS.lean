/-
  The shortest order in the reference: contract of ShortestOrder.
  By an AI agent.
-/
import Derived.Test.YtlplfpoggifadaaSrch
namespace Go.Proofs.Ytlplfpoggifadaa
open Go.ChangeShapes Go.WideShapes Go.ChangeAt Go.RowKit Go.Joins Go.Deep
set_option maxRecDepth 100000
set_option linter.unusedVariables false

theorem sr_all (ps : List DCut) (hC : cAll ps = true) (f : Nat) : SrIH ps f := by
  induction f with
  | zero => exact sr_zero ps hC
  | succ f ih => exact sr_succ ps hC f ih
theorem sShortestOrder_any (g n c : Nat) (ps : List DCut) (w : World) (hl : ps.length = n) (hm : n ≤ 1048576) (hR : Row w g (n * 3) (cc ps)) :
    Calls Try.prog 19 #[.slice (some ⟨g, 0, none⟩) n c] w (GetL (shR ps) w) := by
  have HL := Lib.hid hl
  have HR := Lib.hid hR
  clear hR
  cases ho : cAll ps
  · have HC := Lib.hid ho
    have HV := Lib.hid (shR_no (ps := ps) (.inl ho))
    clear ho hl
    go_enter Try.func19, Try.ntmps19
    go_wp2_with fail
    refine (l20Ok_any _ _ _ _ _ HL.out hm HR.out).mono ?_
    rw [HC.out]
    rintro e w2 ⟨rfl, hb2⟩
    have HB2 := Lib.hid (hb2.trans ((Below.box w2 (.cells #[] 3 (0, 0))).mono hb2.size))
    clear hb2
    go_wp2_with fail
    go_ret
    exact GetL.nil HV.out HB2.out _ _
  · have HC := Lib.hid ho
    by_cases h6 : n ≤ 6
    · have HV : Hid (shR ps = (srch ps n []).1) := Lib.hid (by rw [shR_yes ho (by rw [hl]; exact h6), hl])
      have HS := Lib.hid (sr_all ps ho n)
      have t1 : decide ((n : Int) > 6) = false := decide_eq_false (by omega)
      clear ho hl
      go_enter Try.func19, Try.ntmps19
      go_wp2_with fail
      refine (l20Ok_any _ _ _ _ _ HL.out hm HR.out).mono ?_
      rw [HC.out]
      rintro e w2 ⟨rfl, hb2⟩
      have HB2 := Lib.hid (hb2.trans ((Below.box w2 (.cells #[] 3 (0, 0))).mono hb2.size))
      have HR2 := Lib.hid ((HR.out.below hb2 HR.out.lt).alloc (.cells #[] 3 (0, 0)))
      have HR0 : Hid (Row (w2.alloc (.cells #[] 3 (0, 0))) w2.heap.size 0 (ic [])) := Lib.hid ((Row.of_new w2 #[] 3).congr (fun i hi => by simp at hi))
      clear hb2
      go_wp2_with fail
      refine (HS.out g n c w2.heap.size 0 0 [] 0 0 0 _ HL.out h6 HR2.out (ordOk.nil n) rfl (Nat.zero_add n) rfl HR0.out).mono ?_
      rintro e w3 ⟨a, c3, rfl, hs, hf, hb⟩
      have HB3 := Lib.hid (HB2.out.trans (hb.mono HB2.out.size))
      have HX := Lib.hid hs
      have HF := Lib.hid (fresh_weak hf HB2.out.size)
      clear hs hf hb
      go_wp2_with fail
      go_ret
      unfold GetL
      rw [HV.out]
      exact ⟨a, c3, rfl, HX.out, HF.out, HB3.out⟩
    · have HV := Lib.hid (shR_no (ps := ps) (.inr (by rw [hl]; omega)))
      have t1 : decide ((n : Int) > 6) = true := decide_eq_true (by omega)
      clear ho hl
      go_enter Try.func19, Try.ntmps19
      go_wp2_with fail
      refine (l20Ok_any _ _ _ _ _ HL.out hm HR.out).mono ?_
      rw [HC.out]
      rintro e w2 ⟨rfl, hb2⟩
      have HB2 := Lib.hid (hb2.trans ((Below.box w2 (.cells #[] 3 (0, 0))).mono hb2.size))
      clear hb2
      go_wp2_with fail
      go_ret
      exact GetL.nil HV.out HB2.out _ _
end Go.Proofs.Ytlplfpoggifadaa
