/-
  The Go function laws.FnSheets returns true for every input and leaves its arguments as they were; no condition.
  By an AI agent.
-/
import Derived.Test.YtoflcjgimkbgpaaRows
import Derived.WalkKit
import Derived.ProofKit
import Derived.OpenShut
import Derived.Carry
import Derived.ChangeOld
import Derived.Below
import Derived.Lib.SmallJoins
import Derived.Deep.Slices
import Derived.Deep.Fields
import Derived.Lib.Hide
import Derived.Test.YtoflcjgimkbgpaaSheetM
import Derived.Deep.RegionHeld3
import Derived.Deep.DeepCutAuto
import Derived.BigRegion
namespace Go.Proofs.Ytoflcjgimkbgpaa.fnSheets
open Go.Proofs.Ytoflcjgimkbgpaa Go.ChangeShapes Go.WideShapes Go.ChangeAt Go.RowKit Go.Joins Go.Deep

set_option linter.unusedVariables false
set_option maxRecDepth 100000

theorem own : ownKnob Try.prog.godebug = none := by kernel_rfl
theorem laidOut : laidOutB Try.prog = true := by kernel_rfl



set_option maxHeartbeats 3200000 in
theorem walk (w : World) (a0 : Option Addr) (l0 c0 : Nat) (z0 : List Int) (w0 : IsRow .u8 w a0 l0 c0 z0) :
    Calls Try.prog 3 #[.slice a0 l0 c0] w fun e w' => e = .returned (.bool true) ∧ Below w.heap.size w w' := by
  obtain ⟨hmx, _⟩ := w0.cells
  obtain ⟨_, hby⟩ := Bytes.of w0
  have HBY := Lib.hid hby
  clear hby w0
  by_cases hbig : l0 ≤ 1048576
  · have hb : decide (1048576 < (l0 : Int)) = false := decide_eq_false (by omega)
    go_enter Try.func3, Try.ntmps3
    go_wp2_with fail
    refine (big_any a0 l0 c0 _ hmx).mono ?_
    rw [hb]
    rintro e w1 ⟨rfl, rfl⟩
    clear hb
    go_wp2_with fail
    refine (drawCard_any a0 l0 c0 _ hbig HBY.out).mono ?_
    rintro e w1 ⟨d, f, n, aS, cS, ss, rfl, hC, hB⟩
    have HS := Lib.hid (ShS.new (cS := cS) hC hB 26)
    have HY := Lib.hid ((HBY.out.below hB).below (Below.box w1 (.cells #[.int .i64 d, .int .i64 f, .slice aS n cS] 26 (0, 0))))
    have hok := hC.ok
    have hd4 := hC.d4
    have hf4 := hC.f4
    have hn6 := hC.n6
    have hlen := hC.len
    have HOK := Lib.hid hok
    have HLN := Lib.hid hlen
    obtain ⟨h, hh⟩ : ∃ h : Nat, d + f = h := ⟨_, rfl⟩
    have hdf : (d : Int) + (f : Int) = (h : Int) := by omega
    have HDF := Lib.hid hdf
    have hh2 : 2 ≤ h ∧ h ≤ 8 := by omega
    have eN : Hid (blkN d f ss = (n : Int)) := Lib.hid (by unfold blkN; rw [if_pos hok, hlen])
    have eH : Hid (blkH d f ss = (h : Int)) := Lib.hid (by unfold blkH; rw [if_pos hok, hdf])
    clear hC hB hok hlen hdf hh
    go_wp2_with fail
    generalize w1.alloc (.cells #[.int .i64 d, .int .i64 f, .slice aS n cS] 26 (0, 0)) = wA at *
    generalize w1.heap.size = P at *
    refine (iBlankOf_any d f aS n cS ss _ HS.out.c.len HS.out.c.room HS.out.c.row).mono ?_
    rw [eN.out, eH.out]
    rintro e w2 ⟨rfl, hb⟩
    replace HS := Lib.hid (HS.out.below hb)
    replace HY := Lib.hid (HY.out.below hb)
    clear hb
    obtain ⟨x0, x1, x2⟩ := HS.out.pc
    go_wp2_with fail
    refine (at_by a0 l0 c0 0 w2 (by omega) hbig HY.out).mono ?_
    rintro e w3 ⟨⟨v0, rfl, hv00, hv01⟩, rfl⟩
    have hvm : 0 ≤ v0 % 100 ∧ v0 % 100 ≤ 99 := by omega
    obtain ⟨hm0, hm1⟩ := hvm
    go_wp2_with fail
    generalize hX : 10 + v0 % 100 = X at *
    obtain ⟨x, rfl⟩ : ∃ x : Nat, X = (x : Int) := ⟨X.toNat, by omega⟩
    have hx : 10 ≤ x ∧ x ≤ 109 := by omega
    clear hX hm0 hm1 hv00 hv01
    refine (at_by a0 l0 c0 1 w2 (by omega) hbig HY.out).mono ?_
    rintro e w3 ⟨⟨v1, rfl, hv10, hv11⟩, rfl⟩
    have hvm : 0 ≤ v1 % 100 ∧ v1 % 100 ≤ 99 := by omega
    obtain ⟨hm0, hm1⟩ := hvm
    go_wp2_with fail
    generalize hX : 12 + v1 % 100 = X at *
    obtain ⟨y, rfl⟩ : ∃ y : Nat, X = (y : Int) := ⟨X.toNat, by omega⟩
    have hy : 12 ≤ y ∧ y ≤ 111 := by omega
    clear hX hm0 hm1 hv10 hv11
    refine (iFitOn_any x y d f aS n cS ss _ HS.out.c.len HS.out.c.room HS.out.c.row).mono ?_
    rintro e w4 ⟨rfl, hb⟩
    replace HS := Lib.hid (HS.out.below hb)
    replace HY := Lib.hid (HY.out.below hb)
    clear hb x0 x1 x2
    obtain ⟨x0, x1, x2⟩ := HS.out.pc
    go_wp2_with fail
    refine (iBestFit_any x y d f aS n cS ss _ HS.out.c.len HS.out.c.room HS.out.c.row).mono ?_
    rintro e w5 ⟨rfl, hb⟩
    replace HS := Lib.hid (HS.out.below hb)
    replace HY := Lib.hid (HY.out.below hb)
    clear hb x0 x1 x2
    obtain ⟨x0, x1, x2⟩ := HS.out.pc
    go_wp2_with fail
    refine (at_by a0 l0 c0 2 w5 (by omega) hbig HY.out).mono ?_
    rintro e w6 ⟨⟨v2, rfl, hv20, hv21⟩, rfl⟩
    go_wp2_with fail
    obtain ⟨k, hk⟩ : ∃ k : Nat, v2 * 5 = (k : Int) := ⟨(v2 * 5).toNat, by omega⟩
    have hk2 : k ≤ 1275 := by omega
    rw [hk]
    clear hk hv20 hv21
    obtain ⟨A, B, S, eA, hAe, eB, eB2, hAB, hBU, hB1, hB4, eS, hS5, hSB5, hkS, hS1⟩ := sheets_facts (k := k) HOK.out HLN.out HDF.out (by omega) hh2 hx hy hk2
    rw [eA, eB]
    have EB2 := Lib.hid eB2
    refine (iSheetsFor_any x y k d f aS n cS ss _ HS.out.c.len HS.out.c.room HS.out.c.row).mono ?_
    rw [eS]
    clear eA eB eB2 eS
    rintro e w6 ⟨rfl, hb⟩
    replace HS := Lib.hid (HS.out.below hb)
    replace HY := Lib.hid (HY.out.below hb)
    clear hb x0 x1 x2
    obtain ⟨x0, x1, x2⟩ := HS.out.pc
    have g1 : ((n : Int) != (n : Int)) = false := by simp
    have g2 := HDF.out
    have g3 : ((h : Int) != (h : Int)) = false := by simp
    have q1 : ((x : Int)).tdiv (n : Int) = ((x / n : Nat) : Int) := by rw [Int.tdiv_eq_ediv_of_nonneg (by omega)]; simp
    have q2 : ((y : Int)).tdiv (h : Int) = ((y / h : Nat) : Int) := by rw [Int.tdiv_eq_ediv_of_nonneg (by omega)]; simp
    have q3 : ((x / n : Nat) : Int) * ((y / h : Nat) : Int) = (A : Int) := by rw [hAe]; simp
    have q4 : (x : Int) * (y : Int) = ((x * y : Nat) : Int) := by simp
    have q5 : (n : Int) * (h : Int) = ((n * h : Nat) : Int) := by simp
    have q6 : ((x * y : Nat) : Int).tdiv ((n * h : Nat) : Int) = ((x * y / (n * h) : Nat) : Int) := by rw [Int.tdiv_eq_ediv_of_nonneg (by omega)]; simp
    have q7 : (S : Int) * (B : Int) = ((S * B : Nat) : Int) := by simp
    have hxy : x * y ≤ 20000 := Nat.le_trans (Nat.mul_le_mul hx.2 hy.2) (by decide)
    have hnh : n * h ≤ 48 := Nat.mul_le_mul hn6.2 hh2.2
    have hnh0 : 0 < n * h := Nat.mul_pos (by omega) (by omega)
    have hxn : x / n ≤ x := Nat.div_le_self _ _
    have hyh : y / h ≤ y := Nat.div_le_self _ _
    have hU3 : x * y / (n * h) ≤ x * y := Nat.div_le_self _ _
    have hW : ∃ W M : Int, ((S : Int) - 1) * (B : Int) = W ∧ -50000 ≤ W ∧ W ≤ 50000 ∧ W < M ∧ ((k ≤ 1 ∧ M = 1) ∨ (2 ≤ k ∧ M = k)) := by
      rcases Nat.lt_or_ge k 2 with hk0 | hk0
      · refine ⟨((S : Int) - 1) * (B : Int), 1, rfl, ?_⟩
        rcases Nat.eq_zero_or_pos S with h0 | h0
        · subst h0; simp; omega
        · obtain ⟨s, rfl⟩ : ∃ s, S = s + 1 := ⟨S - 1, by omega⟩
          have e : (((s + 1 : Nat) : Int) - 1) * (B : Int) = ((s * B : Nat) : Int) := by simp
          rw [e]
          rw [Nat.add_mul] at hSB5
          simp at hS1
          omega
      · refine ⟨((S : Int) - 1) * (B : Int), k, rfl, ?_⟩
        rcases Nat.eq_zero_or_pos S with h0 | h0
        · subst h0; simp; omega
        · obtain ⟨s, rfl⟩ : ∃ s, S = s + 1 := ⟨S - 1, by omega⟩
          have e : (((s + 1 : Nat) : Int) - 1) * (B : Int) = ((s * B : Nat) : Int) := by simp
          rw [e]
          rw [Nat.add_mul] at hSB5
          simp at hS1
          omega
    obtain ⟨W, M, q8, hW0, hW1, hWM, hM⟩ := hW
    have d1 : ¬ (n : Int) = 0 := by omega
    have d2 : ¬ n = 0 := by omega
    have d3 : ¬ (h : Int) = 0 := by omega
    have d4 : ¬ h = 0 := by omega
    have d5 : ¬ ((n * h : Nat) : Int) = 0 := by omega
    have d6 : ¬ n * h = 0 := by omega
    clear hAe hS1
    generalize x / n = X1 at *
    generalize y / h = Y1 at *
    generalize x * y / (n * h) = U3 at *
    generalize x * y = U1 at *
    generalize n * h = U2 at *
    generalize S * B = SB at *
    have s1 : IntKind.i64.wrap (X1 : Int) = (X1 : Int) := IntWalk.i64_in _ (by omega)
    have s2 : IntKind.i64.wrap (Y1 : Int) = (Y1 : Int) := IntWalk.i64_in _ (by omega)
    have s3 : IntKind.i64.wrap (A : Int) = (A : Int) := IntWalk.i64_in _ (by omega)
    have s4 : IntKind.i64.wrap (U1 : Int) = (U1 : Int) := IntWalk.i64_in _ (by omega)
    have s5 : IntKind.i64.wrap (U2 : Int) = (U2 : Int) := IntWalk.i64_in _ (by omega)
    have s6 : IntKind.i64.wrap (U3 : Int) = (U3 : Int) := IntWalk.i64_in _ (by omega)
    have s7 : IntKind.i64.wrap (SB : Int) = (SB : Int) := IntWalk.i64_in _ (by omega)
    have s8 : IntKind.i64.wrap W = W := IntWalk.i64_in _ (by omega)
    have s9 : IntKind.i64.wrap (h : Int) = (h : Int) := IntWalk.i64_in _ (by omega)
    have s0 : IntKind.i64.wrap ((S : Int) - 1) = (S : Int) - 1 := IntWalk.i64_in _ (by omega)
    have c1 : ¬ B < A := by omega
    have c1' : decide ((B : Int) < (A : Int)) = false := decide_eq_false (by omega)
    have c2 : ¬ U3 < B := by omega
    have c2' : decide ((B : Int) > (U3 : Int)) = false := decide_eq_false (by omega)
    have c3 : ¬ B = 0 := by omega
    have c3' : ((B : Int) == 0) = false := by simpa using c3
    have c4 : ¬ SB < k := by omega
    have c4' : decide ((SB : Int) < (k : Int)) = false := decide_eq_false (by omega)
    have hMe : M = if (1 : Int) < (k : Int) then (k : Int) else 1 := by
      rcases hM with ⟨h1, h2⟩ | ⟨h1, h2⟩
      · rw [if_neg (by omega)]; exact h2
      · rw [if_pos (by omega)]; exact h2
    have c5a : W < (if (1 : Int) < (k : Int) then (k : Int) else 1) := by rw [← hMe]; exact hWM
    have c5 : ¬ (if (1 : Int) < (k : Int) then (k : Int) else 1) ≤ W := by rw [← hMe]; omega
    have c5' : decide (W ≥ (if (1 : Int) < (k : Int) then (k : Int) else 1)) = false := decide_eq_false c5
    have c6 : ((A : Int) != (A : Int)) = false := by simp
    have c7 : ((B : Int) != (B : Int)) = false := by simp
    clear hM hMe hWM
    go_wp2_with fail
    simp only [List.append_eq, List.cons_append, List.nil_append]
    clear x0 x1 x2
    have hS := Lib.hid (CS3.of (HS.out.below (Below.refl _ _).drew))
    go_region_held3 (fun w' => (w'.cell? ⟨P, 0, none⟩ = some (.int .i64 d) ∧ w'.cell? ⟨P, 1, none⟩ = some (.int .i64 f) ∧ w'.cell? ⟨P, 2, none⟩ = some (.slice aS n cS)) ∧ Hid (ShS w P d f n cS aS ss w'))
      (first | exact hS.out | (go_keep; done))
      ((go_at_call 20; refine (iBestFit_any y x d f aS n cS ss _ (show CS3 w P d f n cS aS ss _ from by assumption).2.out.c.len (show CS3 w P d f n cS aS ss _ from by assumption).2.out.c.room (show CS3 w P d f n cS aS ss _ from by assumption).2.out.c.row).mono ?_; rw [EB2.out]; rintro e wS ⟨rfl, bS⟩; have hS := Lib.hid (CS3.next (show CS3 w P d f n cS aS ss _ from by assumption) bS); clear bS))
    all_goals
      have HS8 := Lib.hid hS.out.2.out
      have HY8 := Lib.hid (HBY.out.below hS.out.2.out.b)
      clear hS HS HY q1 q2 q3 q4 q5 q6 q7 q8 s1 s2 s3 s4 s5 s6 s7 s8 s9 s0 c1 c1' c2 c2' c3 c3' c4 c4' c5a c5 c5' c6 c7 g1 g2 g3 d1 d2 d3 d4 d5 d6 hW0 hW1 hkS hSB5 hS5 hB4 hB1 hBU hAB hxy hnh hnh0 hxn hyh hU3
      generalize (if (1 : Int) < (k : Int) then (k : Int) else 1) = M9
      go_wp2_with fail
      refine (bands_any a0 l0 c0 _ hbig HY8.out).mono ?_
      rintro e w9 ⟨wd, N, gR, cR, rows, rfl, hrl, hrr, hg, ⟨hwd1, hwd2, hN⟩, hrows, hb⟩
      have HRL := Lib.hid hrl
      have HROW := Lib.hid hrows
      have HRR := Lib.hid hrr
      have HB9 := Lib.hid (HS8.out.b.trans (hb.mono HS8.out.b.size))
      clear hrl hrr hg hrows hb HS8 HY8
      go_wp2_with fail
      obtain ⟨L, hL⟩ : ∃ L, ffR wd rows = L := ⟨_, rfl⟩
      have hLl : L.length = N := by
        rw [← hL, ffR_yes (by rw [HRL.out]; omega) (by rw [HRL.out]; exact HROW.out), HRL.out]
        exact (ff_len _ _ _).1
      have HLA : Hid (∀ k, k < N → L.getD k 0 = ((fitAt (rows.getD k 0) (ff wd rows k).2 : Nat) : Int)) := Lib.hid (fun k hk => by
        rw [← hL, ffR_yes (by rw [HRL.out]; omega) (by rw [HRL.out]; exact HROW.out), HRL.out]
        exact ff_out_at hk)
      refine (iFirstFit_any wd _ N cR rows _ HRL.out (by omega) (SlR.of_row HRR.out)).mono ?_
      rw [hL]
      rintro e w10 ⟨aL, cL, he, hLr, _, hb⟩
      rw [hLl] at he hLr
      subst he
      have HLR := Lib.hid hLr
      have HRR2 := Lib.hid (HRR.out.below hb HRR.out.lt)
      have HB10 := Lib.hid (HB9.out.trans (hb.mono HB9.out.size))
      clear hL hLl hLr hb HRR HB9
      have MK : ∀ W : World, (Instr.makeSlice 33 (.int .i64 ((N : Int) + 1)) (.int .i64 ((N : Int) + 1))).run Try.prog W = .ok (.slice (some ⟨W.heap.size, 0, none⟩) (N + 1) (N + 1)) (W.alloc (.cells (madeCells #[.int .i64 0] (N + 1)) 3)) := fun W => make_ints (N + 1) (by omega) W
      have nn : ((N : Int) != (N : Int)) = false := by simp
      go_wp2_with fail
      clear MK nn
      have HG0 := Lib.hid (row_made w10 (N + 1) wd rows)
      have hbx := Below.box w10 (.cells (madeCells #[.int .i64 0] (N + 1)) 3 (0, 0))
      have HB11 := Lib.hid (HB10.out.trans (hbx.mono HB10.out.size))
      have HRR3 := Lib.hid (HRR2.out.below hbx HRR2.out.lt)
      have HLR3 := Lib.hid (HLR.out.below hbx)
      have hgR := HRR2.out.lt
      have hsz := HB10.out.size
      have HLN3 : Hid (∀ b, aL = some b → N ≠ 0 → b.block ≠ w10.heap.size) := Lib.hid (fun b hb hn => by
        obtain ⟨g, hg, hr⟩ := HLR.out.row (by omega)
        rw [hb] at hg
        simp only [Option.some.injEq] at hg
        subst hg
        have := hr.lt
        show g ≠ _
        omega)
      clear hbx HRR2 HLR HB10
      generalize w10.alloc (.cells (madeCells #[.int .i64 0] (N + 1)) 3 (0, 0)) = w11 at *
      generalize w10.heap.size = G at *
      go_loopw [15, 16, 18] (fun u v i wr => ∃ k : Nat, k ≤ N ∧ i = .int .i64 k ∧ u = .int .i64 (((ff wd rows k).2.length : Int) - 1) ∧ v = .int .i64 (rsum rows k) ∧ Row wr G (N + 1) (lc wd rows k) ∧ OnlyB G w11 wr) (fun _ _ i _ => N - (intOf i).toNat)
      case atStart => exact ⟨0, Nat.zero_le _, rfl, rfl, rfl, HG0.out, OnlyB.refl _ _⟩
      case round =>
        clear HG0
        obtain ⟨k, hk, rfl, rfl, rfl, hg, ho⟩ := hrel
        have HG := Lib.hid hg
        have HO := Lib.hid ho
        have hR := ho.row HRR3.out (by omega)
        have hLs := ho.sl HLR3.out HLN3.out
        have HFI := Lib.hid (ffi (wd := wd) (rows := rows) (k := k) (by omega) (fun j hj => HROW.out j (by omega)))
        have hlk := (ff_len wd rows k).2
        obtain ⟨tl1, tl2⟩ := rsum_bd (rows := rows) (wd := wd) (k := k) (fun j hj => HROW.out j (by omega))
        have tl3 : (wd : Int) * (k : Int) ≤ 39 * 11 := by
          rw [← Int.natCast_mul]
          have : wd * k ≤ 39 * 11 := Nat.mul_le_mul hwd2 (by omega)
          omega
        have tl4 : rsum rows k ≤ 429 := by omega
        clear hg ho tl2 tl3
        obtain ⟨mo, hmo⟩ : ∃ mo : Int, mo = ((ff wd rows k).2.length : Int) - 1 := ⟨_, rfl⟩
        have HMO := Lib.hid hmo
        rw [← hmo]
        have hmo1 : -1 ≤ mo ∧ mo ≤ 10 := by omega
        obtain ⟨ma, mb⟩ := hmo1
        by_cases hlt : k < N
        · obtain ⟨p, hp⟩ : ∃ p, p = fitAt (rows.getD k 0) (ff wd rows k).2 := ⟨_, rfl⟩
          have hp1 : p ≤ (ff wd rows k).2.length := by rw [hp]; exact fitAt_le _ _
          have hpm : (p : Int) ≤ mo + 1 := by omega
          have hpN : p < N + 1 := by omega
          have HPE := Lib.hid hp
          obtain ⟨gL, rfl, hrL⟩ := hLs.row (by omega)
          have cL0 := hrL.cell hlt
          have cR0 := hR.cell hlt
          have cG0 := HG.out.cell hpN
          have fG0 := HG.out.frozen p
          unfold ic at cL0 cR0
          unfold lc at cG0
          rw [HLA.out k hlt, ← hp] at cL0
          obtain ⟨lb1, lb2⟩ := load_pos HFI.out p
          have lb2' := lb2 (by omega)
          obtain ⟨xb1, xb2⟩ := HROW.out k (by omega)
          obtain ⟨x1, hx1⟩ : ∃ x, rows.getD k 0 = x := ⟨_, rfl⟩
          obtain ⟨lp, hlp⟩ : ∃ l, loadOf wd (ff wd rows k).2 p = l := ⟨_, rfl⟩
          obtain ⟨tt, htt⟩ : ∃ l, rsum rows k = l := ⟨_, rfl⟩
          have HT2 : Hid (rsum rows (k + 1) = tt + x1) := Lib.hid (by rw [← htt, ← hx1]; rfl)
          have HX1 := Lib.hid hx1
          have HLP := Lib.hid hlp
          rw [hx1] at cR0 xb1 xb2
          rw [hlp] at cG0 lb1 lb2'
          rw [htt] at tl1 tl4 ⊢
          clear hR hLs hrL hp hlk hmo hp1 lb2 hx1 hlp htt HFI
          obtain ⟨n1, n2⟩ : (p : Int) < (N : Int) + 1 ∧ (0 : Int) ≤ (p : Int) := ⟨by omega, by omega⟩
          have t1 : ¬ (p : Int) < 0 := by omega
          have t2 : decide ((p : Int) > mo + 1) = false := decide_eq_false (by omega)
          have t2' : ¬ mo + 1 < (p : Int) := by omega
          have s1 : IntKind.i64.wrap (lp + x1) = lp + x1 := IntWalk.i64_in _ (by omega)
          have HNX : Hid (∀ wy, OnlyB G wr wy → Row wy G (N + 1) (fun j => if j = p then .int .i64 (lp + x1) else lc wd rows k j) → Row wy G (N + 1) (lc wd rows (k + 1)) ∧ OnlyB G w11 wy) := Lib.hid (fun wy ho hr => ⟨hr.congr fun j _ => lc_step wd rows k p HPE.out lp x1 HLP.out HX1.out j, HO.out.then ho⟩)
          have HMS := Lib.hid (most_step wd rows k p HPE.out mo HMO.out)
          have HGS : Hid (Row (wr.setCell ⟨G, p, none⟩ (.int .i64 (lp + x1))) G (N + 1) (fun j => if j = p then .int .i64 (lp + x1) else lc wd rows k j) ∧ OnlyB G wr (wr.setCell ⟨G, p, none⟩ (.int .i64 (lp + x1)))) := Lib.hid ⟨HG.out.set p _, OnlyB.setCell _ _ _ _⟩
          by_cases hmp : mo < p
          · have hmp' : mo < p := hmp
            have t3 : decide (mo < (p : Int)) = true := decide_eq_true hmp
            go_wp2
            go_region
            all_goals
              go_wp2
              obtain ⟨hr', ho'⟩ := HNX.out _ (HGS.out.2.heapEq (b := (wr.setCell ⟨G, p, none⟩ (.int .i64 (lp + x1))).drew) rfl rfl rfl rfl) HGS.out.1.drew
              go_roundw
              case rel => exact ⟨k + 1, by omega, by go_num, by rw [HMS.out.1 hmp], by rw [HT2.out], hr', ho'⟩
              case measure => simp [intOf]; omega
          · have hmp' : (p : Int) ≤ mo := by omega
            have t3 : decide (mo < (p : Int)) = false := decide_eq_false hmp
            go_wp2
            go_region
            all_goals
              go_wp2
              obtain ⟨hr', ho'⟩ := HNX.out _ (HGS.out.2.heapEq (b := (wr.setCell ⟨G, p, none⟩ (.int .i64 (lp + x1))).drew) rfl rfl rfl rfl) HGS.out.1.drew
              go_roundw
              case rel => exact ⟨k + 1, by omega, by go_num, by rw [HMS.out.2 hmp], by rw [HT2.out], hr', ho'⟩
              case measure => simp [intOf]; omega
        · have hk' : N = k := by omega
          subst hk'
          have HBL := Lib.hid (band_law (wd := wd) (rows := rows) (n := N) (by omega) HROW.out)
          have HBz := Lib.hid (HB11.out.trans ((HO.out.toBelow (B := w.heap.size) hsz (by have := HB11.out.size; omega))))
          obtain ⟨len, hlen⟩ : ∃ len, (ff wd rows N).2.length = len := ⟨_, rfl⟩
          obtain ⟨tt, htt⟩ : ∃ l, rsum rows N = l := ⟨_, rfl⟩
          rw [hlen] at hmo hlk
          rw [htt] at tl1 tl4 ⊢
          have hfin : ∃ Y : Int, mo * (wd : Int) = Y ∧ -39 ≤ Y ∧ Y ≤ 429 ∧ (Y < 1 ∨ Y < 2 * tt) := by
            have hb := mul_small (a := mo) (b := (wd : Int)) ⟨by omega, by omega⟩ ⟨by omega, by omega⟩
            refine ⟨mo * (wd : Int), rfl, hb.1, hb.2, ?_⟩
            have hl := HBL.out
            rw [hlen, htt] at hl
            rcases hl with h | h | h
            · have : mo = -1 := by omega
              left; rw [this]; omega
            · by_cases h0 : len = 0
              · have : mo = -1 := by omega
                left; rw [this]; omega
              · left; rw [show mo = ((len - 1 : Nat) : Int) by omega]; exact h
            · by_cases h0 : len = 0
              · have : mo = -1 := by omega
                left; rw [this]; omega
              · right; rw [show mo = ((len - 1 : Nat) : Int) by omega]; exact h
          obtain ⟨Y, hY, hY0, hY1, hY2⟩ := hfin
          have HYE := Lib.hid hY
          have HLEN := Lib.hid hlen
          have hmA : mo ≤ (len : Int) - 1 := by omega
          have hmB : (len : Int) - 1 ≤ mo := by omega
          clear hY hlen htt hR hLs HBL HO hmo
          go_wp2_with fail
          go_loopw [19] (fun i wz => ∃ j : Nat, j ≤ len ∧ i = .int .i64 j ∧ Row wz G (N + 1) (lc wd rows N) ∧ Below w.heap.size w wz) (fun i _ => len - (intOf i).toNat)
          case atStart => exact ⟨0, Nat.zero_le _, rfl, HG.out, HBz.out⟩
          case round =>
            clear HG HBz
            obtain ⟨j, hj, rfl, hg, hb⟩ := hrel
            have HG := Lib.hid hg
            have HB := Lib.hid hb
            clear hg hb
            by_cases hjl : j < len
            · have m1 : (j : Int) ≤ mo := by omega
              have cj := HG.out.cell (i := j) (by omega)
              obtain ⟨a1, a2⟩ := load_pos HFI.out j
              have a2' := a2 (by omega)
              unfold lc at cj
              have i0 : (0 : Int) ≤ (j : Int) := Int.natCast_nonneg _
              have i1 : (j : Int) < (N : Int) + 1 := by omega
              by_cases hj0 : j = 0
              · subst hj0
                generalize loadOf wd (ff wd rows N).2 0 = a at *
                have t1 : ¬ (wd : Int) < a := by omega
                have t1' : decide (a > (wd : Int)) = false := decide_eq_false (by omega)
                clear a2
                go_wp2
                go_quiet (fail)
                go_wp2
                go_roundw
                case rel => exact ⟨1, by omega, by go_num, HG.out.of_heap rfl, below_drewN HB.out _⟩
                case measure => simp [intOf]; omega
              · have hpr := load_pair HFI.out (j := j - 1) (by rw [HLEN.out]; omega)
                rw [show j - 1 + 1 = j by omega] at hpr
                have cj1 := HG.out.cell (i := j - 1) (by omega)
                obtain ⟨b1, b2⟩ := load_pos HFI.out (j - 1)
                have b2' := b2 (by omega)
                unfold lc at cj1
                have i2 : (0 : Int) ≤ ((j - 1 : Nat) : Int) := Int.natCast_nonneg _
                have i3 : ((j - 1 : Nat) : Int) < (N : Int) + 1 := by omega
                have i4 : IntKind.i64.wrap ((j : Int) - 1) = ((j - 1 : Nat) : Int) := by rw [show (j : Int) - 1 = ((j - 1 : Nat) : Int) by omega]; exact IntWalk.i64_in _ (by omega)
                generalize loadOf wd (ff wd rows N).2 j = a at *
                generalize loadOf wd (ff wd rows N).2 (j - 1) = b at *
                generalize j - 1 = q at *
                have t1 : ¬ (wd : Int) < a := by omega
                have t1' : decide (a > (wd : Int)) = false := decide_eq_false (by omega)
                have t2 : decide ((j : Int) > 0) = true := decide_eq_true (by omega)
                have t2' : 0 < j := by omega
                have t3 : IntKind.i64.wrap (a + b) = a + b := IntWalk.i64_in _ (by omega)
                have t4 : decide (a + b ≤ (wd : Int)) = false := decide_eq_false (by omega)
                have t4' : (wd : Int) < a + b := by omega
                clear a2 b2 hpr
                go_wp2
                go_quiet (fail)
                go_wp2
                go_roundw
                case rel => exact ⟨j + 1, by omega, by go_num, HG.out.of_heap rfl, below_drewN HB.out _⟩
                case measure => simp [intOf]; omega
            · have m1 : ¬ (j : Int) ≤ mo := by omega
              have hY := HYE.out
              by_cases h2 : (1 : Int) < 2 * tt
              · have h3 : decide ((1 : Int) < 2 * tt) = true := decide_eq_true h2
                have h4 : Y < 2 * tt := by omega
                have h4' : decide (Y < 2 * tt) = true := decide_eq_true h4
                go_wp2
                all_goals go_ret
                all_goals exact ⟨rfl, HB.out⟩
              · have h3 : decide ((1 : Int) < 2 * tt) = false := decide_eq_false h2
                have h4 : Y < 1 := by omega
                have h4' : decide (Y < 1) = true := decide_eq_true h4
                go_wp2
                all_goals go_ret
                all_goals exact ⟨rfl, HB.out⟩
  · have hb : decide (1048576 < (l0 : Int)) = true := decide_eq_true (by omega)
    go_enter Try.func3, Try.ntmps3
    go_wp2_with fail
    refine (big_any a0 l0 c0 _ hmx).mono ?_
    rw [hb]
    rintro e w1 ⟨rfl, rfl⟩
    go_wp2
    go_ret
    exact ⟨rfl, Below.refl _ _⟩

set_option maxRecDepth 100000 in
theorem lifted (os : Os) (started : os.Started) (H : Type) (enc : TypeId × Value → H) :
    ReturnsInHanded {} Try.checked os 3 .any (Rows.fnSheetsSpec.pre6 enc Try.prog Try.f3 Rows.fnSheetsRow.domain false) (Rows.fnSheetsSpec.post enc Try.prog Try.f3 false true false false) := by
  refine returnsInHanded_of_change (C := Try.checked) own started (by kernel_rfl) Try.func3
    (ChangeSpec.witness6 (enc := enc) (C := Try.checked) false ⟨#[], #[.slice none 0 0], []⟩ 8 (by kernel_rfl) (by kernel_rfl) (by kernel_rfl) (by kernel_rfl)) ?_
  intro W base args ds gs before hval0 hW hcnd _
  have hval : ∀ (j : Nat) t v, Try.f3.params[j]? = some t → args[j]? = some v → Value.okWide Try.prog W .any base t v := hval0
  have hW' := hW
  obtain ⟨p, q, hA0, hV, rfl, hfz, hnd⟩ := hW
  have hA : DataW.TrodAll enc Try.prog W 0 (fun _ => true) true Try.f3.params.toList args.toList ds p := hA0
  rw [Try.params3] at hA hval
  obtain ⟨v0, vs0, d0, ds0, p0, q0, hargs, rfl, rfl, h0, r0⟩ := trodAll_cons hA
  obtain ⟨rfl, rfl, rfl⟩ := trodAll_nil r0
  obtain rfl : args = #[v0] := by cases args; simp_all
  obtain ⟨rfl, rfl⟩ := trodVars_none hV
  have k0 := h0
  have lt0 : ∀ x ∈ p0, x.block < W.heap.size := by obtain ⟨m, hm⟩ := k0; exact DataW.trod_lt m _ _ _ hm
  obtain ⟨a0, l0, c0, z0, rfl, w0⟩ := open_bytes (hval 0 22 v0 rfl rfl) h0
  clear hA0 hval0
  refine (walk W a0 l0 c0 z0 w0).mono fun e W' ⟨he, bel⟩ => ?_
  subst he
  exact ⟨_, rfl, _, _, _, [], _, [], hW', trodAll_mk1 (shut_bool Try.underlying4 _), (trodAll_cons_mk (Below.trod laidOut (by kernel_rfl) (of_decide_eq_true (by kernel_rfl)) k0 bel lt0) trodAll_mk0), rfl, bel.frame _, fun h => by cases h⟩

theorem over : Rows.fnSheetsRow.holds Try.pinned (OpenSpec.ofChange Rows.fnSheetsSpec) :=
  OpenClaim.holds_of_wide 3 Try.f3 rfl rfl rfl rfl rfl rfl rfl ⟨rfl, rfl, rfl, rfl, rfl⟩ rfl rfl rfl rfl rfl (by kernel_rfl) Try.func3 (by kernel_rfl)
    (of_decide_eq_true (by kernel_rfl)) (by unfold Func.isWrapper; first | (rw [if_pos (by decide +kernel)]; kernel_rfl) | (rw [if_neg (by decide +kernel)]; exact ⟨rfl, rfl⟩))
    (fun os started H enc _ => lifted os started H enc)

/-- The statement. -/
theorem proved : Rows.FnSheetsSaid :=
  over
#print axioms proved
end Go.Proofs.Ytoflcjgimkbgpaa.fnSheets
