/-
  The Go function laws.FnDiscs returns true for every input and leaves its arguments as they were; no condition.
  By an AI agent.
-/
import Derived.Test.YtpafclfonclcdaaRows
import Derived.WalkKit
import Derived.ProofKit
import Derived.OpenShut
import Derived.Carry
import Derived.ChangeOld
import Derived.Below
import Derived.Lib.SmallJoins
import Derived.Deep.Slices
import Derived.Deep.Fields
import Derived.Lib.Hide
import Derived.Test.YtpafclfonclcdaaDiscM
import Derived.Deep.RegionHeld3
import Derived.Deep.DeepCutAuto
namespace Go.Proofs.Ytpafclfonclcdaa.fnDiscs
open Go.Proofs.Ytpafclfonclcdaa Go.ChangeShapes Go.WideShapes Go.ChangeAt Go.RowKit Go.Joins Go.Deep

set_option linter.unusedVariables false
set_option maxRecDepth 100000

theorem own : ownKnob Try.prog.godebug = none := by kernel_rfl
theorem laidOut : laidOutB Try.prog = true := by kernel_rfl



set_option maxHeartbeats 3200000 in
theorem walk (w : World) (a0 : Option Addr) (l0 c0 : Nat) (z0 : List Int) (w0 : IsRow .u8 w a0 l0 c0 z0) :
    Calls Try.prog 3 #[.slice a0 l0 c0] w fun e w' => e = .returned (.bool true) ∧ Below w.heap.size w w' := by
  obtain ⟨hmx, _⟩ := w0.cells
  obtain ⟨_, hby⟩ := Bytes.of w0
  have W0 := Lib.hid w0
  have HBY := Lib.hid hby
  clear hby
  by_cases hbig : l0 ≤ 1048576
  · have hb : decide (1048576 < (l0 : Int)) = false := decide_eq_false (by omega)
    go_enter Try.func3, Try.ntmps3
    go_wp2_with fail
    refine (big_any a0 l0 c0 _ hmx).mono ?_
    rw [hb]
    rintro e w1 ⟨rfl, rfl⟩
    clear hb
    go_wp2_with fail
    refine (discs_any a0 l0 c0 _ hbig HBY.out).mono ?_
    rintro e w1 ⟨n, f, aS, cS, zs, m, f', aT, cT, ys, rfl, hD1, hE1, hB1⟩
    obtain ⟨hn2, hn24, hfn⟩ := hD1.two
    obtain ⟨hm2, hm24, hfm⟩ := hE1.two
    obtain ⟨g, rfl, hg⟩ := hD1.row.row (by omega)
    obtain ⟨gT, rfl, hgT⟩ := hE1.row.row (by omega)
    have HL := Lib.hid hD1.len
    have HL' := Lib.hid hE1.len
    have HO := Lib.hid hD1.ok
    have HO' := Lib.hid hE1.ok
    have H5 := Lib.hid hD1.five
    have HG := Lib.hid hg
    have HGT := Lib.hid hgT
    have HBY1 := Lib.hid (HBY.out.below hB1)
    have HB1 := Lib.hid hB1
    clear hD1 hE1 hg hgT hB1
    have hs0 : DSt w w1.heap.size (w1.heap.size + 1) n f cS m f' cT g gT zs ys ((w1.alloc (.cells #[.int .i64 n, .int .i64 f, .slice (some ⟨g, 0, none⟩) n cS] 26 (0, 0))).alloc (.cells #[.int .i64 m, .int .i64 f', .slice (some ⟨gT, 0, none⟩) m cT] 26 (0, 0))) := by
      obtain ⟨Pr, Qr⟩ := rows2 w1 (.int .i64 n) (.int .i64 f) (.slice (some ⟨g, 0, none⟩) n cS) (.int .i64 m) (.int .i64 f') (.slice (some ⟨gT, 0, none⟩) m cT) 26 26
      exact ⟨Pr, Qr, (HG.out.alloc _).alloc _, (HGT.out.alloc _).alloc _, (HB1.out.alloc (HB1.out.size) _).alloc (by have := HB1.out.size; simp; omega) _⟩
    have HY2 := Lib.hid (HBY1.out.below ((Below.box w1 (.cells #[.int .i64 n, .int .i64 f, .slice (some ⟨g, 0, none⟩) n cS] 26 (0, 0))).alloc (o := .cells #[.int .i64 m, .int .i64 f', .slice (some ⟨gT, 0, none⟩) m cT] 26 (0, 0)) (by simp)))
    have HS0 := Lib.hid hs0
    clear hs0 HBY1 HB1 HG HGT
    go_wp2_with fail
    generalize ((w1.alloc (.cells #[.int .i64 n, .int .i64 f, .slice (some ⟨g, 0, none⟩) n cS] 26 (0, 0))).alloc (.cells #[.int .i64 m, .int .i64 f', .slice (some ⟨gT, 0, none⟩) m cT] 26 (0, 0))) = wA at *
    generalize w1.heap.size = P at *
    refine (iPeriodOf_ok n f _ n cS zs _ HL.out (by omega) (SlR.of_row HS0.out.d) HO.out).mono ?_
    rintro e w2 ⟨p, rfl, hper, hb⟩
    have hp1 : 1 ≤ p := hper.1
    have hpn : p ≤ n := hper.2.1
    have HPER := Lib.hid hper
    have HS1 := Lib.hid (HS0.out.below hb)
    have HY3 := Lib.hid (HY2.out.below hb)
    clear hb hper HS0 HY2
    obtain ⟨x0, x1, x2⟩ := HS1.out.pc
    go_wp2_with fail
    obtain ⟨v0, ⟨hv0, hv1⟩, hat0⟩ := at_ex a0 l0 c0 0 w2 (by omega) hbig HY3.out
    obtain ⟨k, hkn, e5⟩ : ∃ k : Nat, k < n ∧ v0.tmod (n : Int) = (k : Int) := ⟨(v0.tmod (n : Int)).toNat, by rw [Int.tmod_eq_emod_of_nonneg hv0]; have := Int.emod_nonneg v0 (show (n : Int) ≠ 0 by omega); have := Int.emod_lt_of_pos v0 (show (0 : Int) < (n : Int) by omega); omega, by rw [Int.tmod_eq_emod_of_nonneg hv0]; have := Int.emod_nonneg v0 (show (n : Int) ≠ 0 by omega); omega⟩
    have e6 : IntKind.i64.wrap (k : Int) = (k : Int) := IntWalk.i64_in _ (by omega)
    have e7 : ¬ (n : Int) = 0 := by omega
    have e8 : ¬ n = 0 := by omega
    go_quiet ((go_at_call 9; exact quiet_eq (hat0 _)))
    clear e5 e6 x0 x1 x2 hat0
    have HS2 := Lib.hid (HS1.out.below (below_drewN (Below.refl _ _) nq))
    have HY4 := Lib.hid (HY3.out.below (below_drewN (Below.refl _ _) nq))
    generalize w2.drewN nq = w3 at *
    clear HS1 HY3 hv0 hv1
    go_wp2_with fail
    refine (at_by a0 l0 c0 1 w3 (by omega) hbig HY4.out).mono ?_
    rintro e w4 ⟨⟨v1, rfl, hv0, hv1⟩, rfl⟩
    obtain ⟨x0, x1, x2⟩ := HS2.out.pc
    obtain ⟨y, hy⟩ : ∃ y, y = v1 - 128 := ⟨_, rfl⟩
    have hy0 : -128 ≤ y := by omega
    have hy1 : y ≤ 127 := by omega
    have HYE := Lib.hid hy
    clear hy
    go_wp2_with fail
    rw [← HYE.out]
    obtain ⟨F, hF, hT, hE⟩ := turned_int (x := y) HO.out (by omega)
    have HT := Lib.hid hT
    have HE := Lib.hid hE
    clear hT hE HYE
    refine (iTurnDisc_any n f y g n cS zs _ HL.out (by omega) (SlR.of_row HS2.out.d)).mono ?_
    rw [HT.out]
    rintro e w4 ⟨gU, cU, rfl, _, hr4, hb4⟩
    have HS3 := Lib.hid (HS2.out.below hb4)
    have HU := Lib.hid hr4
    clear hb4 hr4 HS2 HY4 HT x0 x1 x2
    have HSu : Hid (DSu w P (P + 1) w4.heap.size n f cS m f' cT F cU g gT gU zs ys (w4.alloc (.cells #[.int .i64 n, .int .i64 F, .slice (some ⟨gU, 0, none⟩) n cU] 26 (0, 0)))) := Lib.hid ⟨HS3.out.below (Below.box _ _), Row.new3 _ _ _ _ _, HU.out.alloc _⟩
    obtain ⟨x0, x1, x2⟩ := HSu.out.s.pc
    obtain ⟨y0, y1, y2⟩ := HSu.out.s.qc
    clear HS3 HU
    go_wp2_with fail
    generalize w4.alloc (.cells #[.int .i64 n, .int .i64 F, .slice (some ⟨gU, 0, none⟩) n cU] 26 (0, 0)) = w5 at *
    generalize w4.heap.size = T at *
    clear x0 x1 x2 y0 y1 y2
    refine (iMeet_yes n f cS m f' cT _ _ zs ys _ HL.out (SlR.of_row HSu.out.s.d) HO.out HL'.out (SlR.of_row HSu.out.s.e) HO'.out).mono ?_
    rintro e w6 ⟨rfl, hb⟩
    obtain ⟨hM1, hM2, hM3, hM4⟩ := meet_law (a := n) (b := m) (by omega) (by omega)
    generalize n / Nat.gcd n m * m = M at *
    have hM5 : n * m ≤ 24 * 24 := Nat.mul_le_mul (by omega) (by omega)
    replace HSu := Lib.hid (HSu.out.below hb)
    clear hb
    obtain ⟨x0, x1, x2⟩ := HSu.out.s.pc
    obtain ⟨y0, y1, y2⟩ := HSu.out.s.qc
    obtain ⟨z0, z1, z2⟩ := HSu.out.tc
    have t1 : decide ((p : Int) < 1) = false := decide_eq_false (by omega)
    have t1' : ¬ (p : Int) < 1 := by omega
    have t2 : ((n : Int)).tmod (p : Int) = 0 := by
      rw [Int.tmod_eq_emod_of_nonneg (by omega)]
      have := (upto_iff.1 HPER.out.2.2.1).1
      omega
    have t2' : n % p = 0 := (upto_iff.1 HPER.out.2.2.1).1
    have t2a : ¬ (p : Int) = 0 := by omega
    have t2b : ¬ p = 0 := by omega
    have t3 : decide ((M : Int) < 1) = false := decide_eq_false (by omega)
    have t3' : ¬ (M : Int) < 1 := by omega
    have t4 : ((M : Int)).tmod (n : Int) = 0 := by rw [Int.tmod_eq_emod_of_nonneg (by omega)]; omega
    have t5 : ((M : Int)).tmod (m : Int) = 0 := by rw [Int.tmod_eq_emod_of_nonneg (by omega)]; omega
    have t5a : ¬ (m : Int) = 0 := by omega
    have t5b : ¬ m = 0 := by omega
    have t7 : (M : Int) ≤ (n : Int) * (m : Int) := by rw [← Int.natCast_mul]; exact Int.ofNat_le.2 hM4
    have t7' : decide ((M : Int) > (n : Int) * (m : Int)) = false := decide_eq_false (Int.not_lt.2 t7)
    have t6 : wrap64 ((n : Int) * (m : Int)) = (n : Int) * (m : Int) := by rw [← Int.natCast_mul]; exact w64s _ (Nat.le_trans hM5 (by decide))
    have t6' : IntKind.i64.wrap ((n : Int) * (m : Int)) = (n : Int) * (m : Int) := by rw [← Int.natCast_mul]; exact i64s _ (Nat.le_trans hM5 (by decide))
    clear hM4 hM5
    go_wp2_with (go_at_call 12; refine (iDiscOk_any n F _ n cU zs _ HL.out (by omega) (SlR.of_row HSu.out.u)).mono ?_; rw [ok_turn HO.out hF]; rintro e w7 ⟨rfl, hb⟩; have HSv := Lib.hid (HSu.out.below hb); clear hb; obtain ⟨q0, q1, q2⟩ := HSv.out.s.pc; obtain ⟨r0, r1, r2⟩ := HSv.out.s.qc)
    clear t1 t2 t2' t2a t2b t3 t4 t5 t5a t5b t7 t7' t6 t6' t1' t3' x0 x1 x2 y0 y1 y2 z0 z1 z2 q0 q1 q2 r0 r1 r2 HSu hM1 hM2 hM3
    go_loopw [10] (fun i wr => ∃ q : Nat, 1 ≤ q ∧ q ≤ p ∧ i = .int .i64 q ∧ DSu w P (P + 1) T n f cS m f' cT F cU g gT gU zs ys wr) (fun i _ => p - (intOf i).toNat)
    case atStart => exact ⟨1, Nat.le_refl _, by omega, rfl, HSv.out⟩
    case round =>
      clear HSv
      obtain ⟨q, hq1, hqp, rfl, hs⟩ := hrel
      have HS := Lib.hid hs
      clear hs
      by_cases hql : q < p
      · obtain ⟨G, hG⟩ : ∃ G, (f + q) % n = G := ⟨_, rfl⟩
        have hGn : G < n := by rw [← hG]; exact Nat.mod_lt _ (by omega)
        have HGE := Lib.hid hG
        have HTN : Hid (turned n f (q : Int) zs = (G : Int)) := Lib.hid (by rw [turned_nat HO.out (by omega), hG])
        clear hG
        go_wp2_with fail
        obtain ⟨wo, rfl⟩ : ∃ wo : World, wo = wr := ⟨_, rfl⟩
        go_loopw [11, 12] (fun s i wr => ∃ j : Nat, j ≤ n ∧ i = .int .i64 j ∧ s = .bool (alikeP zs n f G j) ∧ DSu w P (P + 1) T n f cS m f' cT F cU g gT gU zs ys wr) (fun _ i _ => n - (intOf i).toNat)
        case atStart => exact ⟨0, Nat.zero_le _, rfl, rfl, HS.out⟩
        case round =>
          clear HS
          obtain ⟨j, hj, rfl, rfl, hs⟩ := hrel
          have HS := Lib.hid hs
          clear hs
          obtain ⟨x0, x1, x2⟩ := HS.out.s.pc
          by_cases hlt : j < n
          · have HA : Hid (alikeP zs n f G (j + 1) = (alikeP zs n f G j && decide (shownP zs n G j = shownP zs n f j))) := Lib.hid rfl
            cases ha : alikeP zs n f G j
            · have HA2 : Hid (alikeP zs n f G (j + 1) = false) := Lib.hid (by rw [HA.out, ha]; rfl)
              clear HA ha
              go_wp2
              go_quiet (fail)
              go_wp2
              go_roundw
              case rel => exact ⟨j + 1, by omega, by go_num, by rw [HA2.out], HS.out.below (below_drewN (Below.refl _ _) _)⟩
              case measure => simp [intOf]; omega
            · have HA2 : Hid (alikeP zs n f G (j + 1) = decide (shownP zs n G j = shownP zs n f j)) := Lib.hid (by rw [HA.out, ha]; rfl)
              clear HA ha
              obtain ⟨u, hu⟩ : ∃ u, shownP zs n G j = u := ⟨_, rfl⟩
              obtain ⟨v, hv⟩ : ∃ v, shownP zs n f j = v := ⟨_, rfl⟩
              have HU := Lib.hid hu
              have HV := Lib.hid hv
              have HE3 : Hid (alikeP zs n f G (j + 1) = (u == v)) := Lib.hid (by rw [HA2.out, hu, hv]; rfl)
              clear hu hv HA2
              go_wp2_with fail
              have hS := Lib.hid (DS3.of (HS.out.below (Below.refl _ _).drew))
              clear x0 x1 x2
              go_region_held3 (fun w' => (w'.cell? ⟨P, 0, none⟩ = some (Value.int .i64 n) ∧ w'.cell? ⟨P, 1, none⟩ = some (Value.int .i64 f) ∧ w'.cell? ⟨P, 2, none⟩ = some (Value.slice (some ⟨g, 0, none⟩) n cS)) ∧ Hid (DSu w P (P + 1) T n f cS m f' cT F cU g gT gU zs ys w'))
                (first | exact hS.out | (go_keep; done))
                (first | (go_at_call 10; refine (iTurnDisc_any n f (q : Int) g n cS zs _ HL.out (by omega) (SlR.of_row (show DS3 w P (P + 1) T n f cS m f' cT F cU g gT gU zs ys _ from by assumption).2.out.s.d)).mono ?_; rw [HTN.out]; rintro e wS ⟨gq, cgq, rfl, _, rq, bS⟩; have hS := Lib.hid (DS3.next (show DS3 w P (P + 1) T n f cS m f' cT F cU g gT gU zs ys _ from by assumption) bS); have Rgq := Lib.hid rq; clear rq bS) | (go_at_call_of 13 (Value.agg #[.int .i64 n, .int .i64 G, .slice (some ⟨gq, 0, none⟩) n cgq]); refine (iShown_yes n G j cgq _ zs _ HL.out (SlR.of_row Rgq.out) (ok_turn HO.out hGn) (by omega)).mono ?_; rw [HU.out]; rintro e wS ⟨rfl, bS⟩; have hS := Lib.hid (DS3.next (show DS3 w P (P + 1) T n f cS m f' cT F cU g gT gU zs ys _ from by assumption) bS); clear bS) | (go_at_call_of 13 (Value.agg #[.int .i64 n, .int .i64 f, .slice (some ⟨g, 0, none⟩) n cS]); refine (iShown_yes n f j cS _ zs _ HL.out (SlR.of_row (show DS3 w P (P + 1) T n f cS m f' cT F cU g gT gU zs ys _ from by assumption).2.out.s.d) HO.out (by omega)).mono ?_; rw [HV.out]; rintro e wS ⟨rfl, bS⟩; have hS := Lib.hid (DS3.next (show DS3 w P (P + 1) T n f cS m f' cT F cU g gT gU zs ys _ from by assumption) bS); clear bS))
              all_goals
                go_wp2
                go_roundw
                case rel => exact ⟨j + 1, by omega, by go_num, by rw [HE3.out], hS.out.2.out⟩
                case measure => simp [intOf]; omega
          · have hj' : j = n := by omega
            subst hj'
            cases ha : alikeP zs j f G j
            · clear ha
              go_wp2
              go_roundw
              case rel => exact ⟨q + 1, by omega, by omega, by go_num, HS.out⟩
              case measure => simp [intOf]; omega
            · have hnq : ¬ j % q = 0 := fun e => by
                have h1 := alike_per (q := q) hfn (by rw [HGE.out]; exact ha) e
                rw [HPER.out.2.2.2 q hq1 hql] at h1
                cases h1
              have e1 : ((j : Int)).tmod (q : Int) = ((j % q : Nat) : Int) := by
                rw [Int.tmod_eq_emod_of_nonneg (by omega)]; simp
              have e2 : ¬ ((j % q : Nat) : Int) = 0 := by omega
              have e3 : ¬ (q : Int) = 0 := by omega
              have e4 : ¬ q = 0 := by omega
              clear ha
              go_wp2
              go_roundw
              case rel => exact ⟨q + 1, by omega, by omega, by go_num, HS.out⟩
              case measure => simp [intOf]; omega
      · have hq' : q = p := by omega
        subst hq'
        obtain ⟨G, hG⟩ : ∃ G, (f + q) % n = G := ⟨_, rfl⟩
        have hGn : G < n := by rw [← hG]; exact Nat.mod_lt _ (by omega)
        have HGE := Lib.hid hG
        have HTN : Hid (turned n f (q : Int) zs = (G : Int)) := Lib.hid (by rw [turned_nat HO.out (by omega), hG])
        clear hG
        obtain ⟨wo, rfl⟩ : ∃ wo : World, wo = wr := ⟨_, rfl⟩
        go_wp2_with fail
        go_loopw [13] (fun i wr => ∃ j : Nat, j ≤ n ∧ i = .int .i64 j ∧ DSu w P (P + 1) T n f cS m f' cT F cU g gT gU zs ys wr) (fun i _ => n - (intOf i).toNat)
        case atStart => exact ⟨0, Nat.zero_le _, rfl, HS.out⟩
        case round =>
          clear HS
          obtain ⟨j, hj, rfl, hs⟩ := hrel
          have HS := Lib.hid hs
          clear hs
          obtain ⟨x0, x1, x2⟩ := HS.out.s.pc
          by_cases hlt : j < n
          · obtain ⟨u, hu⟩ : ∃ u, shownP zs n G j = u := ⟨_, rfl⟩
            have HU := Lib.hid hu
            have HV : Hid (shownP zs n f j = u) := Lib.hid (by rw [← hu, ← HGE.out]; exact (per_alike (by omega) HPER.out.2.2.1 j).symm)
            have huu : (u != u) = false := by simp
            clear hu
            go_wp2_with fail
            have hS := Lib.hid (DS3.of (HS.out.below (Below.refl _ _).drew))
            clear x0 x1 x2
            go_region_held3 (fun w' => (w'.cell? ⟨P, 0, none⟩ = some (Value.int .i64 n) ∧ w'.cell? ⟨P, 1, none⟩ = some (Value.int .i64 f) ∧ w'.cell? ⟨P, 2, none⟩ = some (Value.slice (some ⟨g, 0, none⟩) n cS)) ∧ Hid (DSu w P (P + 1) T n f cS m f' cT F cU g gT gU zs ys w'))
              (first | exact hS.out | (go_keep; done))
              (first | (go_at_call 10; refine (iTurnDisc_any n f (q : Int) g n cS zs _ HL.out (by omega) (SlR.of_row (show DS3 w P (P + 1) T n f cS m f' cT F cU g gT gU zs ys _ from by assumption).2.out.s.d)).mono ?_; rw [HTN.out]; rintro e wS ⟨gq, cgq, rfl, _, rq, bS⟩; have hS := Lib.hid (DS3.next (show DS3 w P (P + 1) T n f cS m f' cT F cU g gT gU zs ys _ from by assumption) bS); have Rgq := Lib.hid rq; clear rq bS) | (go_at_call_of 13 (Value.agg #[.int .i64 n, .int .i64 G, .slice (some ⟨gq, 0, none⟩) n cgq]); refine (iShown_yes n G j cgq _ zs _ HL.out (SlR.of_row Rgq.out) (ok_turn HO.out hGn) (by omega)).mono ?_; rw [HU.out]; rintro e wS ⟨rfl, bS⟩; have hS := Lib.hid (DS3.next (show DS3 w P (P + 1) T n f cS m f' cT F cU g gT gU zs ys _ from by assumption) bS); clear bS) | (go_at_call_of 13 (Value.agg #[.int .i64 n, .int .i64 f, .slice (some ⟨g, 0, none⟩) n cS]); refine (iShown_yes n f j cS _ zs _ HL.out (SlR.of_row (show DS3 w P (P + 1) T n f cS m f' cT F cU g gT gU zs ys _ from by assumption).2.out.s.d) HO.out (by omega)).mono ?_; rw [HV.out]; rintro e wS ⟨rfl, bS⟩; have hS := Lib.hid (DS3.next (show DS3 w P (P + 1) T n f cS m f' cT F cU g gT gU zs ys _ from by assumption) bS); clear bS))
            all_goals
              go_wp2
              go_roundw
              case rel => exact ⟨j + 1, by omega, by go_num, hS.out.2.out⟩
              case measure => simp [intOf]; omega
          · clear hj
            obtain ⟨i, hi⟩ : ∃ i, (f + k) % n = i := ⟨_, rfl⟩
            have hin : i < n := by rw [← hi]; exact Nat.mod_lt _ (by omega)
            obtain ⟨X, hX⟩ : ∃ X, zs.getD i 0 = X := ⟨_, rfl⟩
            obtain ⟨Z, hZ⟩ : ∃ Z, zs.getD 0 0 = Z := ⟨_, rfl⟩
            have HIE := Lib.hid hi
            have HX := Lib.hid hX
            have HZ := Lib.hid hZ
            have HXS : Hid (shownP zs n f k = X) := Lib.hid (by unfold shownP; rw [hi, hX])
            have H99 : Hid (∀ j, j < n → zs.getD j 0 ≠ 99) := Lib.hid (fun j hj h => by have := H5.out j hj; omega)
            have HBK : Hid (turned n F (-y) zs = (f : Int)) := Lib.hid (by
              obtain ⟨F2, hF2, hT2, hE2⟩ := turned_int (x := -y) (ok_turn HO.out hF) (by omega)
              rw [hT2, ← hE2, ← HE.out]
              exact back_turn f y n (by omega) (by omega))
            have hn0 : 0 < n := by omega
            clear hi hX hZ
            go_wp2_with fail
            refine (iShown_yes n f k cS _ zs _ HL.out (SlR.of_row HS.out.s.d) HO.out hkn).mono ?_
            rw [HXS.out]
            rintro e w8 ⟨rfl, hb⟩
            replace HS := Lib.hid (HS.out.below hb)
            clear hb x0 x1 x2
            go_wp2_with fail
            have hS := Lib.hid (DS4.of (x := X) (z := Z) hn0 hin HX.out HZ.out (HS.out.below (Below.refl _ _).drew))
            go_region_held3 (fun w' => (w'.cell? ⟨P, 0, none⟩ = some (Value.int .i64 n) ∧ w'.cell? ⟨P, 1, none⟩ = some (Value.int .i64 f) ∧ w'.cell? ⟨P, 2, none⟩ = some (Value.slice (some ⟨g, 0, none⟩) n cS) ∧ w'.cell? ⟨g, 0, none⟩ = some (Value.int .i64 Z) ∧ w'.cell? ⟨g, i, none⟩ = some (Value.int .i64 X)) ∧ Hid (DSu w P (P + 1) T n f cS m f' cT F cU g gT gU zs ys w'))
              (first | exact hS.out | (go_keep; done))
              ((go_at_call 14; refine (iTurns_first n f k cS Z _ zs _ HL.out (SlR.of_row (show DS4 w P (P + 1) T n f cS m f' cT F cU g gT gU zs ys i X Z _ from by assumption).2.out.s.d) HO.out hkn HZ.out).mono ?_; rintro e wS ⟨⟨t, rfl, htn, ht⟩, bS⟩; have hS := Lib.hid (DS4.next hn0 hin HX.out HZ.out (show DS4 w P (P + 1) T n f cS m f' cT F cU g gT gU zs ys i X Z _ from by assumption) bS); have HTT := Lib.hid ht; clear ht bS))
            all_goals
              have HS9 := Lib.hid hS.out.2.out
              clear hS HS
              obtain ⟨z0, z1, z2⟩ := HS9.out.tc
              go_wp2_with fail
              refine (iTurnDisc_any n F (-y) gU n cU zs _ HL.out (by omega) (SlR.of_row HS9.out.u)).mono ?_
              rw [HBK.out]
              rintro e w9 ⟨gB, cB, rfl, _, hr, hb⟩
              have HS10 := Lib.hid (HS9.out.below hb)
              clear hb z0 z1 z2 HS9 hr
              have HS11 := Lib.hid (HS10.out.below (Below.box w9 (.cells #[.int .i64 n, .int .i64 f, .slice (some ⟨gB, 0, none⟩) n cB] 26 (0, 0))))
              have HB11 := Lib.hid (Row.new3 w9 (.int .i64 n) (.int .i64 f) (.slice (some ⟨gB, 0, none⟩) n cB) 26)
              clear HS10
              go_wp2_with fail
              generalize w9.alloc (.cells #[.int .i64 n, .int .i64 f, .slice (some ⟨gB, 0, none⟩) n cB] 26 (0, 0)) = wC at *
              generalize w9.heap.size = B at *
              obtain ⟨G2, hG2⟩ : ∃ G2, (f + t) % n = G2 := ⟨_, rfl⟩
              have hGn : G2 < n := by rw [← hG2]; exact Nat.mod_lt _ (by omega)
              have HTN2 : Hid (turned n f (t : Int) zs = (G2 : Int)) := Lib.hid (by rw [turned_nat HO.out (by omega), hG2])
              have HZ2 : Hid (shownP zs n G2 k = Z) := Lib.hid (by rw [← hG2]; exact HTT.out)
              have e1 : ((f : Int) + (k : Int)).tmod (n : Int) = (i : Int) := by
                rw [Int.tmod_eq_emod_of_nonneg (by omega), ← HIE.out]; simp
              have e2 : IntKind.i64.wrap ((f : Int) + (k : Int)) = (f : Int) + (k : Int) := IntWalk.i64_in _ (by omega)
              have i0 : (0 : Int) ≤ (i : Int) := Int.natCast_nonneg _
              have i1 : (i : Int) < (n : Int) := by omega
              have t0 : (0 : Int) ≤ (t : Int) := Int.natCast_nonneg _
              have t0' : decide ((t : Int) ≥ 0) = true := decide_eq_true t0
              have t1 : (t : Int) < (n : Int) := by omega
              have t1' : decide ((t : Int) < (n : Int)) = true := decide_eq_true t1
              have hXX : (X == X) = true := by simp
              have hZZ : (Z == Z) = true := by simp
              have hff : ((f : Int) == (f : Int)) = true := by simp
              have hnz : (0 : Int) ≤ (n : Int) := by omega
              have hn1 : (0 : Int) < (n : Int) := by omega
              clear hG2
              have hS := Lib.hid (DS5.of (x := X) (z := Z) hn0 hin HX.out HZ.out (HS11.out.below (Below.refl _ _).drew) (HB11.out.drew))
              go_region_held3 (fun w' => (w'.cell? ⟨P, 0, none⟩ = some (Value.int .i64 n) ∧ w'.cell? ⟨P, 1, none⟩ = some (Value.int .i64 f) ∧ w'.cell? ⟨P, 2, none⟩ = some (Value.slice (some ⟨g, 0, none⟩) n cS) ∧ w'.cell? ⟨g, 0, none⟩ = some (Value.int .i64 Z) ∧ w'.cell? ⟨g, i, none⟩ = some (Value.int .i64 X) ∧ w'.cell? ⟨B, 1, none⟩ = some (Value.int .i64 f)) ∧ Hid (DSu w P (P + 1) T n f cS m f' cT F cU g gT gU zs ys w' ∧ Row w' B 3 (tri (.int .i64 n) (.int .i64 f) (.slice (some ⟨gB, 0, none⟩) n cB))))
                (first | exact hS.out | (go_keep; done))
                (first | (go_at_call 10; refine (iTurnDisc_any n f (t : Int) g n cS zs _ HL.out (by omega) (SlR.of_row (show DS5 w P (P + 1) T n f cS m f' cT F cU g gT gU zs ys i X Z B gB cB _ from by assumption).2.out.1.s.d)).mono ?_; rw [HTN2.out]; rintro e wS ⟨gq, cgq, rfl, _, rq, bS⟩; have hS := Lib.hid (DS5.next hn0 hin HX.out HZ.out (show DS5 w P (P + 1) T n f cS m f' cT F cU g gT gU zs ys i X Z B gB cB _ from by assumption) bS); have Rgq := Lib.hid rq; clear rq bS) | (go_at_call 13; refine (iShown_yes n G2 k cgq _ zs _ HL.out (SlR.of_row Rgq.out) (ok_turn HO.out hGn) hkn).mono ?_; rw [HZ2.out]; rintro e wS ⟨rfl, bS⟩; have hS := Lib.hid (DS5.next hn0 hin HX.out HZ.out (show DS5 w P (P + 1) T n f cS m f' cT F cU g gT gU zs ys i X Z B gB cB _ from by assumption) bS); clear bS) | (go_at_call_of 14 (Value.int .i64 X); refine (iTurns_zero n f k cS X _ zs _ HL.out (SlR.of_row (show DS5 w P (P + 1) T n f cS m f' cT F cU g gT gU zs ys i X Z B gB cB _ from by assumption).2.out.1.s.d) HO.out hkn HXS.out).mono ?_; rintro e wS ⟨rfl, bS⟩; have hS := Lib.hid (DS5.next hn0 hin HX.out HZ.out (show DS5 w P (P + 1) T n f cS m f' cT F cU g gT gU zs ys i X Z B gB cB _ from by assumption) bS); clear bS) | (go_at_call_of 14 (Value.int .i64 99); refine (iTurns_none n f k cS 99 _ zs _ HL.out (SlR.of_row (show DS5 w P (P + 1) T n f cS m f' cT F cU g gT gU zs ys i X Z B gB cB _ from by assumption).2.out.1.s.d) HO.out hkn H99.out).mono ?_; rintro e wS ⟨rfl, bS⟩; have hS := Lib.hid (DS5.next hn0 hin HX.out HZ.out (show DS5 w P (P + 1) T n f cS m f' cT F cU g gT gU zs ys i X Z B gB cB _ from by assumption) bS); clear bS))
              all_goals
                go_wp2
                go_ret
                exact ⟨rfl, hS.out.2.out.1.s.b⟩
  · have hb : decide (1048576 < (l0 : Int)) = true := decide_eq_true (by omega)
    go_enter Try.func3, Try.ntmps3
    go_wp2_with fail
    refine (big_any a0 l0 c0 _ hmx).mono ?_
    rw [hb]
    rintro e w1 ⟨rfl, rfl⟩
    go_wp2
    go_ret
    exact ⟨rfl, Below.refl _ _⟩

set_option maxRecDepth 100000 in
theorem lifted (os : Os) (started : os.Started) (H : Type) (enc : TypeId × Value → H) :
    ReturnsInHanded {} Try.checked os 3 .any (Rows.fnDiscsSpec.pre6 enc Try.prog Try.f3 Rows.fnDiscsRow.domain false) (Rows.fnDiscsSpec.post enc Try.prog Try.f3 false true false false) := by
  refine returnsInHanded_of_change (C := Try.checked) own started (by kernel_rfl) Try.func3
    (ChangeSpec.witness6 (enc := enc) (C := Try.checked) false ⟨#[], #[.slice none 0 0], []⟩ 8 (by kernel_rfl) (by kernel_rfl) (by kernel_rfl) (by kernel_rfl)) ?_
  intro W base args ds gs before hval0 hW hcnd _
  have hval : ∀ (j : Nat) t v, Try.f3.params[j]? = some t → args[j]? = some v → Value.okWide Try.prog W .any base t v := hval0
  have hW' := hW
  obtain ⟨p, q, hA0, hV, rfl, hfz, hnd⟩ := hW
  have hA : DataW.TrodAll enc Try.prog W 0 (fun _ => true) true Try.f3.params.toList args.toList ds p := hA0
  rw [Try.params3] at hA hval
  obtain ⟨v0, vs0, d0, ds0, p0, q0, hargs, rfl, rfl, h0, r0⟩ := trodAll_cons hA
  obtain ⟨rfl, rfl, rfl⟩ := trodAll_nil r0
  obtain rfl : args = #[v0] := by cases args; simp_all
  obtain ⟨rfl, rfl⟩ := trodVars_none hV
  have k0 := h0
  have lt0 : ∀ x ∈ p0, x.block < W.heap.size := by obtain ⟨m, hm⟩ := k0; exact DataW.trod_lt m _ _ _ hm
  obtain ⟨a0, l0, c0, z0, rfl, w0⟩ := open_bytes (hval 0 22 v0 rfl rfl) h0
  clear hA0 hval0
  refine (walk W a0 l0 c0 z0 w0).mono fun e W' ⟨he, bel⟩ => ?_
  subst he
  exact ⟨_, rfl, _, _, _, [], _, [], hW', trodAll_mk1 (shut_bool Try.underlying4 _), (trodAll_cons_mk (Below.trod laidOut (by kernel_rfl) (of_decide_eq_true (by kernel_rfl)) k0 bel lt0) trodAll_mk0), rfl, bel.frame _, fun h => by cases h⟩

theorem over : Rows.fnDiscsRow.holds Try.pinned (OpenSpec.ofChange Rows.fnDiscsSpec) :=
  OpenClaim.holds_of_wide 3 Try.f3 rfl rfl rfl rfl rfl rfl rfl ⟨rfl, rfl, rfl, rfl, rfl⟩ rfl rfl rfl rfl rfl (by kernel_rfl) Try.func3 (by kernel_rfl)
    (of_decide_eq_true (by kernel_rfl)) (by unfold Func.isWrapper; first | (rw [if_pos (by decide +kernel)]; kernel_rfl) | (rw [if_neg (by decide +kernel)]; exact ⟨rfl, rfl⟩))
    (fun os started H enc _ => lifted os started H enc)

/-- The statement. -/
theorem proved : Rows.FnDiscsSaid :=
  over
#print axioms proved
end Go.Proofs.Ytpafclfonclcdaa.fnDiscs
