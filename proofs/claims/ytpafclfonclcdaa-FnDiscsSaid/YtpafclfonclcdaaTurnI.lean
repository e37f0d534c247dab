/-
  The contract of TurnDisc in the program.
  By an AI agent.
-/
import Derived.Test.YtpafclfonclcdaaTurnW
namespace Go.Proofs.Ytpafclfonclcdaa
open Go.ChangeShapes Go.WideShapes Go.ChangeAt Go.RowKit Go.Joins Go.Deep
set_option maxRecDepth 100000
set_option linter.unusedVariables false

/-- Three cells in memory, and nothing below W's size turned: what a region holds that loads a struct beside what makes memory. -/
def SB (W : World) (p : Nat) (x y z : Value) (w' : World) : Prop :=
  (w'.cell? ⟨p, 0, none⟩ = some x ∧ w'.cell? ⟨p, 1, none⟩ = some y ∧ w'.cell? ⟨p, 2, none⟩ = some z) ∧ Hid (Below W.heap.size W w')
section
variable {W w1 w2 : World} {p b : Nat} {x y z : Value}
theorem SB.mk (r : Row W p 3 (tri x y z)) (h : Below W.heap.size W w1) : SB W p x y z w1 := ⟨(r.below h r.lt).tri3.1, Lib.hid h⟩
theorem SB.next (r : Row W p 3 (tri x y z)) (h : SB W p x y z w1) (hb : Below w1.heap.size w1 w2) : SB W p x y z w2 := SB.mk r (h.2.out.trans (hb.mono h.2.out.size))
theorem SB.set3 (r : Row W p 3 (tri x y z)) (h : SB W p x y z w1) (hb : W.heap.size ≤ b) {u0 u1 u2 : Value} : SB W p x y z (((w1.setCell ⟨b, 0, none⟩ u0).setCell ⟨b, 1, none⟩ u1).setCell ⟨b, 2, none⟩ u2) :=
  SB.mk r (((h.2.out.setCell hb _).setCell hb _).setCell hb _)
end
theorem modulo_any (a d : Int) (w : World) (h1 : 2 ≤ d) (h2 : d ≤ 24) (h3 : -1100 ≤ a) (h4 : a ≤ 1100) :
    Calls Try.prog 26 #[.int .i64 a, .int .i64 d] w fun e w' => e = .returned (.int .i64 (a % d)) ∧ w = w' := by
  have e := mod_mod a d (by omega)
  have hb := tmod_bd a d (by omega)
  have HE := Lib.hid e
  clear e
  obtain ⟨b1, b2⟩ := hb
  have h0 : ¬ d = 0 := by omega
  have b3 : 0 ≤ a.tmod d + d := by omega
  go_enter Try.func26, Try.ntmps26
  go_wp2
  go_ret
  exact ⟨ret_int (by have e3 := Int.tmod_eq_emod_of_nonneg (a := a.tmod d + d) (b := d) b3; first | exact HE.out | (rw [← e3]; exact HE.out) | simp), rfl⟩
/-- What the first statement leaves: a disc of the call's own. -/
def MadeD (W : World) (d f : Int) (n : Nat) (zs : List Int) (s5 : Value) (wx : World) : Prop :=
  ∃ bo g' c', s5 = .pointer (some ⟨bo, 0, none⟩) ∧ W.heap.size ≤ bo ∧ W.heap.size ≤ g' ∧ bo ≠ g' ∧ Row wx bo 3 (tri (.int .i64 d) (.int .i64 f) (.slice (some ⟨g', 0, none⟩) n c')) ∧ Row wx g' n (ic zs) ∧ Below W.heap.size W wx
theorem MadeD.first {W w1 : World} {d f : Int} {n g' c' : Nat} {zs : List Int} {T : TypeId} (hb : Below W.drew.heap.size W.drew w1) (hr : Row w1 g' n (ic zs)) (hg : W.drew.heap.size ≤ g') :
    MadeD W d f n zs (.pointer (some ⟨w1.heap.size, 0, none⟩)) (w1.alloc (.cells #[.int .i64 d, .int .i64 f, .slice (some ⟨g', 0, none⟩) n c'] T (0, 0))) := by
  have hb' : Below W.heap.size W w1 := ((Below.refl _ W).drew).trans hb
  exact ⟨_, g', c', rfl, hb'.size, hg, Ne.symm (Nat.ne_of_lt hr.lt), Row.new3 _ _ _ _ _, hr.alloc _, hb'.alloc hb'.size _⟩
theorem MadeD.last {W w1 : World} {d f : Int} {n g' c' b : Nat} {zs : List Int} {T : TypeId} {x y z : Value} (hb : Below (W.alloc (.cells #[x, y, z] T (0, 0))).drew.heap.size (W.alloc (.cells #[x, y, z] T (0, 0))).drew w1) (hr : Row w1 g' n (ic zs)) (hg : (W.alloc (.cells #[x, y, z] T (0, 0))).drew.heap.size ≤ g') (hbz : b = W.heap.size) :
    MadeD W d f n zs (.pointer (some ⟨b, 0, none⟩)) (((w1.setCell ⟨b, 0, none⟩ (.int .i64 d)).setCell ⟨b, 1, none⟩ (.int .i64 f)).setCell ⟨b, 2, none⟩ (.slice (some ⟨g', 0, none⟩) n c')) := by
  subst hbz
  have hg' : W.heap.size + 1 ≤ g' := by simpa using hg
  have hb' : Below W.heap.size W w1 := (((Below.refl _ W).alloc (Nat.le_refl _) _).drew).trans (hb.mono (by simp))
  have hne : g' ≠ W.heap.size := by omega
  have r0 := (((Row.new3 W x y z T).drew.below hb (by simp)).set 0 (.int .i64 d)).set 1 (.int .i64 f) |>.set 2 (.slice (some ⟨g', 0, none⟩) n c')
  refine ⟨_, g', c', rfl, Nat.le_refl _, by omega, Ne.symm hne, r0.congr fun i hi => ?_, ((hr.set_other hne _).set_other hne _).set_other hne _, ((hb'.setCell (Nat.le_refl _) _).setCell (Nat.le_refl _) _).setCell (Nat.le_refl _) _⟩
  have : i = 0 ∨ i = 1 ∨ i = 2 := by omega
  rcases this with rfl | rfl | rfl <;> rfl
set_option maxHeartbeats 1000000 in
theorem iTurnDisc_any (d f by' : Int) (g n c : Nat) (zs : List Int) (w : World) (hl : zs.length = n) (hm : n ≤ 1048576) (hR : SlR w (some ⟨g, 0, none⟩) n (ic zs)) :
    Calls Try.prog 10 #[.agg #[.int .i64 d, .int .i64 f, .slice (some ⟨g, 0, none⟩) n c], .int .i64 by'] w (DTurn w d (turned d f by' zs) n zs) := by
  have HL := Lib.hid hl
  have HR := Lib.hid hR
  clear hR hl
  obtain ⟨P0, Q0⟩ := rows2 w (.int .i64 d) (.int .i64 f) (.slice (some ⟨g, 0, none⟩) n c) (.int .i64 0) (.int .i64 0) (.slice none 0 0) 26 26
  have B0 : Hid (Below w.heap.size w ((w.alloc (.cells #[.int .i64 d, .int .i64 f, .slice (some ⟨g, 0, none⟩) n c] 26)).alloc (.cells #[.int .i64 0, .int .i64 0, .slice none 0 0] 26))) := Lib.hid (by (repeat' (first | exact Below.refl _ _ | refine Below.drew ?_ | refine Below.setCell ?_ ?_ _ | refine Below.alloc ?_ ?_ _)) <;> (first | (simp; done) | (simp; omega)))
  have R0 := Lib.hid (HR.out.below B0.out)
  have hS := Lib.hid (SB.mk P0 ((Below.refl _ ((w.alloc (.cells #[.int .i64 d, .int .i64 f, .slice (some ⟨g, 0, none⟩) n c] 26)).alloc (.cells #[.int .i64 0, .int .i64 0, .slice none 0 0] 26))).drew))
  have P0 := Lib.hid P0
  have Q0 := Lib.hid Q0
  go_enter Try.func10, Try.ntmps10
  go_upto_region 1 with fail
  go_cut [5] (fun s5 wx => MadeD ((w.alloc (.cells #[.int .i64 d, .int .i64 f, .slice (some ⟨g, 0, none⟩) n c] 26)).alloc (.cells #[.int .i64 0, .int .i64 0, .slice none 0 0] 26)) d f n zs s5 wx)
  case first =>
    go_region_held3 (fun w' => (w'.cell? ⟨w.heap.size, 0, none⟩ = some (.int .i64 d) ∧ w'.cell? ⟨w.heap.size, 1, none⟩ = some (.int .i64 f) ∧ w'.cell? ⟨w.heap.size, 2, none⟩ = some (.slice (some ⟨g, 0, none⟩) n c)) ∧ Hid (Below ((w.alloc (.cells #[.int .i64 d, .int .i64 f, .slice (some ⟨g, 0, none⟩) n c] 26)).alloc (.cells #[.int .i64 0, .int .i64 0, .slice none 0 0] 26)).heap.size ((w.alloc (.cells #[.int .i64 d, .int .i64 f, .slice (some ⟨g, 0, none⟩) n c] 26)).alloc (.cells #[.int .i64 0, .int .i64 0, .slice none 0 0] 26)) w'))
      (first | exact hS.out | exact hS2.out | (exact SB.next P0.out (by assumption) (Below.box _ _)) | (exact SB.set3 P0.out (by assumption) (by simp)) | (go_keep; done))
      (first | (go_at_call 24; refine (iClone_any g n c zs _ hm (R0.out.below (show SB ((w.alloc (.cells #[.int .i64 d, .int .i64 f, .slice (some ⟨g, 0, none⟩) n c] 26)).alloc (.cells #[.int .i64 0, .int .i64 0, .slice none 0 0] 26)) w.heap.size (.int .i64 d) (.int .i64 f) (.slice (some ⟨g, 0, none⟩) n c) _ from by assumption).2.out)).mono ?_; rintro e w1 ⟨g', c', rfl, hg, hr, hb⟩; have hS2 := Lib.hid (SB.next P0.out (show SB ((w.alloc (.cells #[.int .i64 d, .int .i64 f, .slice (some ⟨g, 0, none⟩) n c] 26)).alloc (.cells #[.int .i64 0, .int .i64 0, .slice none 0 0] 26)) w.heap.size (.int .i64 d) (.int .i64 f) (.slice (some ⟨g, 0, none⟩) n c) _ from by assumption) hb); have HBX := Lib.hid hb; have HRX := Lib.hid hr; have HGX := Lib.hid hg; obtain ⟨hc, hf⟩ := bcell hb; clear hb hr hg))
    all_goals (go_wp2_with fail; go_meet; first | exact MadeD.first HBX.out HRX.out HGX.out | exact MadeD.last HBX.out HRX.out HGX.out (by simp))
  case rest =>
    obtain ⟨bo, g', c', rfl, hbo, hg, hne, hro, hr, hb⟩ := hcut
    have HB := Lib.hid hb
    have HR' := Lib.hid hr
    have HRO := Lib.hid hro
    have HN := Lib.hid hne
    have P3 := Lib.hid (P0.out.below hb P0.out.lt)
    have Q3 := Lib.hid (Q0.out.below hb Q0.out.lt)
    have R3 := Lib.hid (R0.out.below hb)
    have B3 := Lib.hid (B0.out.trans (hb.mono B0.out.size))
    have HG : Hid (w.heap.size + 2 ≤ g') := Lib.hid (by simpa using hg)
    have HBo : Hid (w.heap.size + 2 ≤ bo) := Lib.hid (by simpa using hbo)
    clear hb hr hro hne hg hbo hS
    obtain ⟨⟨p0, p1, p2⟩, _⟩ := P3.out.tri3
    cases ho : discOkB d f zs
    · have HO := Lib.hid ho
      have HV : Hid (turned d f by' zs = f) := Lib.hid (by unfold turned; rw [ho]; simp)
      clear ho
      go_wp2_with fail
      refine (iDiscOk_any d f _ n c zs _ HL.out hm R3.out).mono ?_
      rw [HO.out]
      rintro e w2 ⟨rfl, hb⟩
      have P4 := Lib.hid (P3.out.below hb P3.out.lt)
      have Q4 := Lib.hid (Q3.out.below hb Q3.out.lt)
      have S4 := Lib.hid (HR'.out.below hb HR'.out.lt)
      have O4 := Lib.hid (HRO.out.below hb HRO.out.lt)
      have B4 := Lib.hid (B3.out.trans (hb.mono B3.out.size))
      clear hb p0 p1 p2
      obtain ⟨⟨p0, p1, p2⟩, _⟩ := P4.out.tri3
      obtain ⟨⟨q0, q1, q2⟩, q3, q4, q5⟩ := Q4.out.tri3
      obtain ⟨⟨o0, o1, o2⟩, o3, o4, o5⟩ := O4.out.tri3
      have z1 := HBo.out
      have z2 := HG.out
      have z3 : w.heap.size + 1 ≠ bo := by omega
      have z4 : bo ≠ w.heap.size + 1 := by omega
      go_wp2_with (first | (go_at_call 25; (first | refine (within_t _ _ _ _ (by omega) (by omega)).mono ?_ | refine (within_f _ _ _ _ (by omega)).mono ?_); rintro e w' ⟨rfl, rfl⟩))
      refine bodyPost_ret (v := .agg #[.int .i64 d, .int .i64 f, .slice (some ⟨g', 0, none⟩) n c']) (by simp [results, Try.results10, go_sem, q0, q1, q2]) rfl ⟨g', c', by rw [HV.out], by omega, ?_, ?_⟩
      · have n1 : g' ≠ w.heap.size + 1 := by omega
        exact ((S4.out.set_other n1 _).set_other n1 _).set_other n1 _
      · exact ((B4.out.setCell (by simp) _).setCell (by simp) _).setCell (by simp) _
    · have HO := Lib.hid ho
      by_cases hby : -1000 ≤ by' ∧ by' ≤ 1000
      · have HV : Hid (turned d f by' zs = (f + by') % d) := Lib.hid (by unfold turned; rw [if_pos ⟨ho, inB_iff.2 hby⟩])
        obtain ⟨hb1, hb2⟩ := hby
        clear ho
        go_wp2_with fail
        refine (iDiscOk_any d f _ n c zs _ HL.out hm R3.out).mono ?_
        rw [HO.out]
        rintro e w2 ⟨rfl, hb⟩
        have P4 := Lib.hid (P3.out.below hb P3.out.lt)
        have Q4 := Lib.hid (Q3.out.below hb Q3.out.lt)
        have S4 := Lib.hid (HR'.out.below hb HR'.out.lt)
        have O4 := Lib.hid (HRO.out.below hb HRO.out.lt)
        have B4 := Lib.hid (B3.out.trans (hb.mono B3.out.size))
        clear hb p0 p1 p2
        obtain ⟨⟨p0, p1, p2⟩, _⟩ := P4.out.tri3
        obtain ⟨⟨q0, q1, q2⟩, q3, q4, q5⟩ := Q4.out.tri3
        obtain ⟨⟨o0, o1, o2⟩, o3, o4, o5⟩ := O4.out.tri3
        have z1 := HBo.out
        have z2 := HG.out
        have z3 : w.heap.size + 1 ≠ bo := by omega
        have z4 : bo ≠ w.heap.size + 1 := by omega
        obtain ⟨⟨hd1, hd2, hd3, hd4, _⟩, _⟩ := discOk_iff.1 HO.out
        go_wp2_with (first | (go_at_call 25; (first | refine (within_t _ _ _ _ (by omega) (by omega)).mono ?_ | refine (within_f _ _ _ _ (by omega)).mono ?_); rintro e w' ⟨rfl, rfl⟩) | (go_at_call 26; refine (modulo_any _ _ _ hd1 hd2 (by omega) (by omega)).mono ?_; rintro e w' ⟨rfl, rfl⟩))
        refine bodyPost_ret (v := .agg #[.int .i64 d, .int .i64 ((f + by') % d), .slice (some ⟨g', 0, none⟩) n c']) (by simp [results, Try.results10, go_sem, q0, q1, q2]) rfl ⟨g', c', by rw [HV.out], by omega, ?_, ?_⟩
        · have n1 : g' ≠ w.heap.size + 1 := by omega
          exact ((((S4.out.set_other (p := ⟨bo, 1, none⟩) (Ne.symm HN.out) _).set_other n1 _).set_other n1 _).set_other n1 _)
        · exact ((((B4.out.setCell (p := ⟨bo, 1, none⟩) (by simp; omega) _).setCell (by simp) _).setCell (by simp) _).setCell (by simp) _)
      · have HV : Hid (turned d f by' zs = f) := Lib.hid (by unfold turned; rw [if_neg (fun h => hby (inB_iff.1 h.2))])
        have hb' : by' < -1000 ∨ 1000 < by' := by omega
        clear ho hby
        go_wp2_with fail
        refine (iDiscOk_any d f _ n c zs _ HL.out hm R3.out).mono ?_
        rw [HO.out]
        rintro e w2 ⟨rfl, hb⟩
        have P4 := Lib.hid (P3.out.below hb P3.out.lt)
        have Q4 := Lib.hid (Q3.out.below hb Q3.out.lt)
        have S4 := Lib.hid (HR'.out.below hb HR'.out.lt)
        have O4 := Lib.hid (HRO.out.below hb HRO.out.lt)
        have B4 := Lib.hid (B3.out.trans (hb.mono B3.out.size))
        clear hb p0 p1 p2
        obtain ⟨⟨p0, p1, p2⟩, _⟩ := P4.out.tri3
        obtain ⟨⟨q0, q1, q2⟩, q3, q4, q5⟩ := Q4.out.tri3
        obtain ⟨⟨o0, o1, o2⟩, o3, o4, o5⟩ := O4.out.tri3
        have z1 := HBo.out
        have z2 := HG.out
        have z3 : w.heap.size + 1 ≠ bo := by omega
        have z4 : bo ≠ w.heap.size + 1 := by omega
        go_wp2_with (first | (go_at_call 25; (first | refine (within_t _ _ _ _ (by omega) (by omega)).mono ?_ | refine (within_f _ _ _ _ (by omega)).mono ?_); rintro e w' ⟨rfl, rfl⟩))
        refine bodyPost_ret (v := .agg #[.int .i64 d, .int .i64 f, .slice (some ⟨g', 0, none⟩) n c']) (by simp [results, Try.results10, go_sem, q0, q1, q2]) rfl ⟨g', c', by rw [HV.out], by omega, ?_, ?_⟩
        · have n1 : g' ≠ w.heap.size + 1 := by omega
          exact ((S4.out.set_other n1 _).set_other n1 _).set_other n1 _
        · exact ((B4.out.setCell (by simp) _).setCell (by simp) _).setCell (by simp) _
end Go.Proofs.Ytpafclfonclcdaa
