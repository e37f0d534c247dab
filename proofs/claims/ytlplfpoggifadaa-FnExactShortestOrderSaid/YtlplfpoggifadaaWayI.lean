/-
  The contract of WayOf in the program.
  By an AI agent.
-/
import Derived.Test.YtlplfpoggifadaaWayOf
import Derived.Deep.DeepCutAuto
namespace Go.Proofs.Ytlplfpoggifadaa
open Go.ChangeShapes Go.WideShapes Go.ChangeAt Go.RowKit Go.Joins Go.Deep
set_option maxRecDepth 100000
set_option linter.unusedVariables false

def kn (x : Int × Int × Int) : Nat → Value := tri (.int .i64 x.1) (.int .i64 x.2.1) (.int .i64 x.2.2)
theorem Row.tset3 {w : World} {b : Nat} {c : Nat → Value} {x y z : Value} (h : Row w b 3 c) : Row (((w.setCell ⟨b, 0, none⟩ x).setCell ⟨b, 1, none⟩ y).setCell ⟨b, 2, none⟩ z) b 3 (tri x y z) :=
  (((h.set 0 x).set 1 y).set 2 z).congr fun i hi => by
    have : i = 0 ∨ i = 1 ∨ i = 2 := by omega
    rcases this with rfl | rfl | rfl <;> rfl
/-- What the first statement leaves: a knife and the marks. -/
def WayStart (W : World) (ord : List Int) (n : Nat) (s5 s6 : Value) (wx : World) : Prop :=
  ∃ bk gu, s5 = .pointer (some ⟨bk, 0, none⟩) ∧ s6 = .slice (some ⟨gu, 0, none⟩) n n ∧ W.heap.size ≤ bk ∧ W.heap.size ≤ gu ∧ bk ≠ gu ∧ Row wx bk 3 (kn (0, 0, 0)) ∧ Row wx gu n (uc ord 0) ∧ Below W.heap.size W wx
theorem marks_new (W : World) (ord : List Int) (n : Nat) (e : TypeId) : Row (W.alloc (.cells (madeCells #[.bool false] n) e (0, 0))) W.heap.size n (uc ord 0) :=
  ((Row.of_new W (madeCells #[.bool false] n) e).mono (M := n) (by simp [madeCells])).congr fun i hi => by
    have := made_at #[.bool false] n i hi
    rw [show (madeCells #[.bool false] n).getD i undef = (madeCells #[.bool false] n).toList.getD i undef by simp, this]
    simp [uc, usedB_zero, Nat.mod_one]
theorem WayStart.a (W : World) (ord : List Int) (n : Nat) (e e' : TypeId) :
    WayStart W ord n (.pointer (some ⟨W.heap.size + 1, 0, none⟩)) (.slice (some ⟨W.heap.size, 0, none⟩) n n) (((W.alloc (.cells (madeCells #[.bool false] n) e (0, 0))).alloc (.cells #[.int .i64 0, .int .i64 0, .int .i64 0] e' (0, 0))).drew) := by
  have h1 : (W.alloc (.cells (madeCells #[.bool false] n) e (0, 0))).heap.size = W.heap.size + 1 := by simp
  have r1 := Row.new3 (W.alloc (.cells (madeCells #[.bool false] n) e (0, 0))) (.int .i64 0) (.int .i64 0) (.int .i64 0) e'
  rw [h1] at r1
  exact ⟨_, _, rfl, rfl, by omega, Nat.le_refl _, by omega, r1.drew, ((marks_new W ord n e).alloc _).drew, (by (repeat' (first | exact Below.refl _ _ | refine Below.drew ?_ | refine Below.setCell ?_ ?_ _ | refine Below.alloc ?_ ?_ _)) <;> (first | (simp; done) | (simp; omega)))⟩
theorem WayStart.b (W : World) (ord : List Int) (n : Nat) (e e' : TypeId) :
    WayStart W ord n (.pointer (some ⟨W.heap.size, 0, none⟩)) (.slice (some ⟨W.heap.size + 1, 0, none⟩) n n) (((W.alloc (.cells #[.int .i64 0, .int .i64 0, .int .i64 0] e' (0, 0))).alloc (.cells (madeCells #[.bool false] n) e (0, 0))).drew) := by
  have h1 : (W.alloc (.cells #[.int .i64 0, .int .i64 0, .int .i64 0] e' (0, 0))).heap.size = W.heap.size + 1 := by simp
  have r1 := marks_new (W.alloc (.cells #[.int .i64 0, .int .i64 0, .int .i64 0] e' (0, 0))) ord n e
  rw [h1] at r1
  exact ⟨_, _, rfl, rfl, Nat.le_refl _, by omega, by omega, ((Row.new3 W _ _ _ e').alloc _).drew, r1.drew, (by (repeat' (first | exact Below.refl _ _ | refine Below.drew ?_ | refine Below.setCell ?_ ?_ _ | refine Below.alloc ?_ ?_ _)) <;> (first | (simp; done) | (simp; omega)))⟩
set_option maxHeartbeats 2000000 in
theorem iWayOf_any (g n c : Nat) (ps : List DCut) (b m d : Nat) (ord : List Int) (w : World) (hl : ps.length = n) (hm : n ≤ 1048576) (hR : Row w g (n * 3) (cc ps)) (hl2 : ord.length = m) (hm2 : m ≤ 1048576) (hO : SlR w (some ⟨b, 0, none⟩) m (ic ord)) :
    Calls Try.prog 29 #[.slice (some ⟨g, 0, none⟩) n c, .slice (some ⟨b, 0, none⟩) m d] w fun e w' => e = .returned (.int .i64 (wayOf ps ord)) ∧ Below w.heap.size w w' := by
  have HL := Lib.hid hl
  have HL2 := Lib.hid hl2
  have HR := Lib.hid hR
  have HO := Lib.hid hO
  clear hR hO
  by_cases h1 : cAll ps = true ∧ n ≤ 8
  · obtain ⟨ho, h8⟩ := h1
    have HC := Lib.hid ho
    have HD : Hid ((cAll ps && decide ((n : Int) ≤ 8)) = true) := Lib.hid (by rw [ho]; simp; omega)
    by_cases hmn : m = n
    · have HV := Lib.hid (fun h4 => wayOf_yes (ps := ps) (ord := ord) ho (by rw [hl]; exact h8) (by rw [hl, hl2]; exact hmn) h4)
      have HMN := Lib.hid hmn
      have t2 : ((m : Int) != (n : Int)) = false := by simp; omega
      have hmn' : m ≤ n := by omega
      clear ho hl hl2 hmn
      go_enter Try.func29, Try.ntmps29
      obtain ⟨i0, hi0, hz0, hz1, hz2⟩ := info_parts infoBool
      have MK : ∀ W : World, (Instr.makeSlice 79 (.int .i64 (n : Int)) (.int .i64 (n : Int))).run Try.prog W = .ok (.slice (some ⟨W.heap.size, 0, none⟩) n n) (W.alloc (.cells (madeCells #[.bool false] n) 4)) := fun W => by
        have := run_make (P := Try.prog) W 79 4 i0 _ Try.underlying79 hi0 hz0 .i64 .i64 n n (by omega) (Int.le_refl _) (by rw [hz2]; omega) (by omega)
        simpa [hz1, Value.cells] using this
      go_upto_region 3 with (go_at_call 48; refine (areCuts_any _ _ _ _ _ _ HL.out hm HR.out).mono ?_; rw [HD.out]; rintro e w2 ⟨rfl, hb2⟩; have HB2 := Lib.hid hb2; clear hb2)
      go_cut [5, 6] (fun s5 s6 wx => WayStart w2 ord n s5 s6 wx)
      case first =>
        go_region
        all_goals (go_wp2_with fail; go_meet; first | exact WayStart.a _ _ _ _ _ | exact WayStart.b _ _ _ _ _)
      case rest =>
        obtain ⟨bk, gu, rfl, rfl, hbk, hgu, hne, hk, hu, hb⟩ := hcut
        have HB0 := Lib.hid (HB2.out.trans (hb.mono HB2.out.size))
        have HGU : Hid (w.heap.size ≤ gu) := Lib.hid (Nat.le_trans HB2.out.size hgu)
        have HBK : Hid (w.heap.size ≤ bk) := Lib.hid (Nat.le_trans HB2.out.size hbk)
        have HNE := Lib.hid hne
        have HK0 := Lib.hid hk
        have HU0 := Lib.hid hu
        clear hb hgu hbk hne hk hu MK
        go_wp2
        go_loopw [25] (fun i wr => ∃ j : Nat, j ≤ m ∧ i = .int .i64 j ∧ (∀ q, q < j → stepOk ord ps.length q = true) ∧ Row wr bk 3 (kn (wst ps ord j)) ∧ Row wr gu n (uc ord j) ∧ Below w.heap.size w wr) (fun i _ => m - (intOf i).toNat)
        case atStart => exact ⟨0, Nat.zero_le _, rfl, fun q h => absurd h (Nat.not_lt_zero q), HK0.out, HU0.out, HB0.out⟩
        case round =>
          obtain ⟨j, hj, rfl, hok, hKn, hW, hB⟩ := hrel
          have HKn := Lib.hid hKn
          clear hKn
          have HK := Lib.hid hok
          have HW := Lib.hid hW
          have HB := Lib.hid hB
          have hbd := wst_bd HC.out j hok
          obtain ⟨hat, hn0, hn1⟩ := hbd
          have HAT := Lib.hid hat
          clear hok hW hB hat
          by_cases hlt : j < m
          · obtain ⟨b', hb', hro⟩ := HO.out.row (by omega)
            simp only [Option.some.injEq, Addr.mk.injEq, and_true] at hb'
            obtain rfl := hb'
            have hbl := hro.lt
            have hgl := HR.out.lt
            have hgu := HGU.out
            have o0 := (hro.below HB.out hbl).cell hlt
            have HRO := Lib.hid (hro.below HB.out hbl)
            have HRG := Lib.hid (HR.out.below HB.out hgl)
            clear hro
            unfold ic at o0
            cases hst : stepOk ord n j
            · have HV2 := Lib.hid (wayOf_bad (ps := ps) (ord := ord) (m := j) (by rw [HL2.out]; exact hlt) (by rw [HL.out]; exact hst))
              have hbad := orders_bad hst
              clear hst
              rcases hbad with h | ⟨q0, q1, hu⟩
              · generalize ord.getD j 0 = q at *
                go_wp2_with (go_at_call 58; (first | refine (within_t _ _ _ _ (by omega) (by omega)).mono ?_ | refine (within_f _ _ _ _ (by omega)).mono ?_); rintro e w' ⟨rfl, rfl⟩)
                go_ret
                exact ⟨ret_int HV2.out.symm, HB.out⟩
              · obtain ⟨i, hi⟩ : ∃ i : Nat, ord.getD j 0 = (i : Int) := ⟨(ord.getD j 0).toNat, by omega⟩
                rw [hi] at o0 q0 q1 hu
                have hin : i < n := by omega
                have u0 := HW.out.cell hin
                unfold uc at u0
                rw [hu] at u0
                clear hu hi
                have i1 : (i : Int) < (n : Int) := by omega
                go_wp2_with (go_at_call 58; (first | refine (within_t _ _ _ _ (by omega) (by omega)).mono ?_ | refine (within_f _ _ _ _ (by omega)).mono ?_); rintro e w' ⟨rfl, rfl⟩)
                go_ret
                exact ⟨ret_int HV2.out.symm, HB.out⟩
            · obtain ⟨q0, q1, hu⟩ := stepOk_iff.1 hst
              have HK2 : Hid (∀ q, q < j + 1 → stepOk ord ps.length q = true) := Lib.hid (by
                intro q hq
                by_cases e : q = j
                · rw [e, HL.out]; exact hst
                · exact HK.out q (by omega))
              obtain ⟨i, hi⟩ : ∃ i : Nat, ord.getD j 0 = (i : Int) := ⟨(ord.getD j 0).toNat, by omega⟩
              have HW2 := Lib.hid (uc_set (i := i) HW.out (by rw [HL2.out]; exact hlt) hi)
              have hti : (ord.getD j 0).toNat = i := by omega
              have HS : Hid (wst ps ord (j + 1) = ((ps.getD i default).k, goP (wst ps ord j).1 (wst ps ord j).2.1 (ps.getD i default), (wst ps ord j).2.2 + goW (wst ps ord j).1 (wst ps ord j).2.1 (ps.getD i default))) := Lib.hid (by
                show ((ps.getD (ord.getD j 0).toNat default).k, _, _) = _
                rw [hti])
              have HI : Hid (ic ord j = .int .i64 (i : Int)) := Lib.hid (by unfold ic; rw [hi])
              rw [hi] at o0 q0 q1 hu
              have hin : i < n := by omega
              have u0 := HW.out.cell hin
              unfold uc at u0
              rw [hu] at u0
              have f0 := HW.out.frozen i
              have hx := cAll_at HC.out (k := i) (by rw [HL.out]; exact hin)
              have hwb := goW_bd HAT.out hx
              have HX := Lib.hid hx
              obtain ⟨c0, c1, c2⟩ := HRG.out.cut hin
              have i1 : (i : Int) < (n : Int) := by omega
              have n1 : b ≠ gu := by omega
              have n2 : g ≠ gu := by omega
              have n3 : bk ≠ gu := HNE.out
              clear hst hu hi hti hx HK
              obtain ⟨hw0, hw1⟩ := hwb
              have CG : Hid (∀ W : World, Row W g (n * 3) (cc ps) → W.cell? ⟨g, i * 3, none⟩ = some (.int .i64 (ps.getD i default).k) ∧ W.cell? ⟨g, i * 3 + 1, none⟩ = some (.int .i64 (ps.getD i default).g) ∧ W.cell? ⟨g, i * 3 + 2, none⟩ = some (.int .i64 (ps.getD i default).s)) := Lib.hid (fun W h => h.cut hin)
              generalize ps.getD i default = x at *
              have W3 : Hid (Below w.heap.size w (wr.setCell ⟨gu, i, none⟩ (.bool true))) := Lib.hid (HB.out.setCell hgu _)
              have O3 := Lib.hid (HRO.out.set_other (p := ⟨gu, i, none⟩) n1 (.bool true))
              have G3 := Lib.hid (HRG.out.set_other (p := ⟨gu, i, none⟩) n2 (.bool true))
              have hk0 := HKn.out
              unfold kn at hk0
              obtain ⟨⟨k0, k1, k2⟩, k3, k4, k5⟩ := hk0.tri3
              have K3 := Lib.hid (hk0.set_other (p := ⟨gu, i, none⟩) n3 (.bool true))
              clear hk0
              have n4 := HBK.out
              have n5 : bk ≠ g := by omega
              go_upto_region 10 with (go_at_call 58; (first | refine (within_t _ _ _ _ (by omega) (by omega)).mono ?_ | refine (within_f _ _ _ _ (by omega)).mono ?_); rintro e w' ⟨rfl, rfl⟩)
              go_region_law (go_simp; go_at_call 57; refine (cut_any _ _ _ x _ HAT.out HX.out hn0 (by omega)).mono ?_; rintro e w4 ⟨rfl, hb4⟩; have hb4' := Lib.hid hb4; have K4 := Lib.hid (K3.out.drew.below hb4 K3.out.lt); have U4 := Lib.hid (HW2.out.drew.below hb4 HW2.out.lt); clear k0 k1 k2 k3 k4 k5 hb4; obtain ⟨⟨k0, k1, k2⟩, k3, k4, k5⟩ := K4.out.tri3)
              all_goals
                have n6 : gu ≠ bk := Ne.symm n3
                go_wp2
                go_roundw
                case rel => exact ⟨j + 1, by omega, by go_num, HK2.out, by rw [HS.out]; exact K4.out.tset3, ((U4.out.set_other n6 _).set_other n6 _).set_other n6 _, (((W3.out.drew.trans (hb4'.out.mono W3.out.drew.size)).setCell n4 _).setCell n4 _).setCell n4 _⟩
                case measure => simp [intOf]; omega
          · have hj' : j = m := by omega
            subst hj'
            have HV2 := Lib.hid (HV.out (by intro q hq; exact HK.out q (by rw [HL2.out] at hq; exact hq)))
            have hk0 := HKn.out
            unfold kn at hk0
            obtain ⟨⟨k0, k1, k2⟩, _⟩ := hk0.tri3
            clear hk0
            go_wp2
            go_ret
            exact ⟨ret_int (by rw [HV2.out, HL2.out]), HB.out⟩
    · have HC := Lib.hid ho
      have HV := Lib.hid (wayOf_no (ps := ps) (ord := ord) (.inr (.inr (by rw [hl, hl2]; exact hmn))))
      have t2 : ((m : Int) != (n : Int)) = true := by simp; omega
      clear ho hl hl2 hmn
      go_enter Try.func29, Try.ntmps29
      go_wp2_with (go_at_call 48; refine (areCuts_any _ _ _ _ _ _ HL.out hm HR.out).mono ?_; rw [HD.out]; rintro e w2 ⟨rfl, hb2⟩)
      go_ret
      exact ⟨ret_int HV.out.symm, hb2⟩
  · have hc : cAll ps = false ∨ 8 < n := by
      cases e : cAll ps
      · exact .inl rfl
      · right; rw [e] at h1; simp only [true_and] at h1; omega
    have HD : Hid ((cAll ps && decide ((n : Int) ≤ 8)) = false) := Lib.hid (by
      rcases hc with h | h
      · rw [h]; rfl
      · have : ¬ (n : Int) ≤ 8 := by omega
        rw [decide_eq_false this, Bool.and_false])
    have HV := Lib.hid (wayOf_no (ps := ps) (ord := ord) (by rw [hl]; rcases hc with h | h <;> simp [h]))
    clear h1 hc hl hl2
    go_enter Try.func29, Try.ntmps29
    go_wp2_with (go_at_call 48; refine (areCuts_any _ _ _ _ _ _ HL.out hm HR.out).mono ?_; rw [HD.out]; rintro e w2 ⟨rfl, hb2⟩)
    go_ret
    exact ⟨ret_int HV.out.symm, hb2⟩
end Go.Proofs.Ytlplfpoggifadaa
