/-
  The way of a knife along an order: the plain words, and contracts of WayOf in the program and in the reference.
  By an AI agent.
-/
import Derived.Test.YtlplfpoggifadaaKnife
import Derived.Test.YtlplfpoggifadaaOwn
import Derived.RegionTactic
import Derived.Deep.RegionLaw
namespace Go.Proofs.Ytlplfpoggifadaa
open Go.ChangeShapes Go.WideShapes Go.ChangeAt Go.RowKit Go.Joins Go.Deep
set_option maxRecDepth 100000
set_option linter.unusedVariables false

/-- Is i among the first j numbers? -/
def usedB (ord : List Int) (j : Nat) (i : Int) : Bool := (ord.take j).contains i
theorem usedB_zero (ord : List Int) (i : Int) : usedB ord 0 i = false := by simp [usedB]
theorem usedB_succ {ord : List Int} {j : Nat} (h : j < ord.length) (i : Int) : usedB ord (j + 1) i = (usedB ord j i || decide (i = ord.getD j 0)) := by
  unfold usedB
  rw [List.take_succ_eq_append_getElem h, List.getD, List.getElem?_eq_getElem h]
  simp only [List.contains_append, Option.getD_some]
  congr 1
  by_cases e : i = ord[j] <;> simp [e]
def stepOk (ord : List Int) (n : Nat) (m : Nat) : Bool := decide (0 ≤ ord.getD m 0) && decide (ord.getD m 0 ≤ (n : Int) - 1) && !usedB ord m (ord.getD m 0)
theorem stepOk_iff {ord : List Int} {n m : Nat} : stepOk ord n m = true ↔ 0 ≤ ord.getD m 0 ∧ ord.getD m 0 ≤ (n : Int) - 1 ∧ usedB ord m (ord.getD m 0) = false := by
  unfold stepOk; simp [and_assoc]
def wayOk (ps : List DCut) (ord : List Int) : Bool := cAll ps && decide (ps.length ≤ 8) && decide (ord.length = ps.length) && (List.range ord.length).all (stepOk ord ps.length)
/-- Row, place and way behind the first j cuts of an order. -/
def wst (ps : List DCut) (ord : List Int) : Nat → Int × Int × Int
  | 0 => (0, 0, 0)
  | j + 1 => ((ps.getD (ord.getD j 0).toNat default).k, goP (wst ps ord j).1 (wst ps ord j).2.1 (ps.getD (ord.getD j 0).toNat default), (wst ps ord j).2.2 + goW (wst ps ord j).1 (wst ps ord j).2.1 (ps.getD (ord.getD j 0).toNat default))
def wayOf (ps : List DCut) (ord : List Int) : Int := if wayOk ps ord = true then (wst ps ord ord.length).2.2 else -1
theorem wayOf_no {ps : List DCut} {ord : List Int} (h : cAll ps = false ∨ 8 < ps.length ∨ ord.length ≠ ps.length) : wayOf ps ord = -1 := by
  have : ¬ wayOk ps ord = true := by
    unfold wayOk
    intro e
    simp only [Bool.and_eq_true, decide_eq_true_eq] at e
    obtain ⟨⟨⟨e1, e2⟩, e3⟩, _⟩ := e
    rcases h with h | h | h
    · rw [e1] at h; cases h
    · omega
    · exact h e3
  unfold wayOf; rw [if_neg this]
theorem wayOf_bad {ps : List DCut} {ord : List Int} {m : Nat} (hm : m < ord.length) (h : stepOk ord ps.length m = false) : wayOf ps ord = -1 := by
  have : ¬ wayOk ps ord = true := by
    unfold wayOk
    intro e
    simp only [Bool.and_eq_true, List.all_eq_true, List.mem_range] at e
    rw [e.2 m hm] at h; cases h
  unfold wayOf; rw [if_neg this]
theorem wayOf_yes {ps : List DCut} {ord : List Int} (h1 : cAll ps = true) (h2 : ps.length ≤ 8) (h3 : ord.length = ps.length) (h4 : ∀ m, m < ord.length → stepOk ord ps.length m = true) : wayOf ps ord = (wst ps ord ord.length).2.2 := by
  have : wayOk ps ord = true := by
    unfold wayOk
    simp only [Bool.and_eq_true, decide_eq_true_eq, List.all_eq_true, List.mem_range]
    exact ⟨⟨⟨h1, h2⟩, h3⟩, h4⟩
  unfold wayOf; rw [if_pos this]
theorem wst_bd {ps : List DCut} {ord : List Int} (h1 : cAll ps = true) (j : Nat) (h4 : ∀ m, m < j → stepOk ord ps.length m = true) :
    At (wst ps ord j).1 (wst ps ord j).2.1 ∧ 0 ≤ (wst ps ord j).2.2 ∧ (wst ps ord j).2.2 ≤ 300 * j := by
  induction j with
  | zero => exact ⟨⟨Int.le_refl _, by show (0 : Int) ≤ 100; omega, Int.le_refl _, by show (0 : Int) ≤ 100; omega⟩, Int.le_refl _, Int.le_refl _⟩
  | succ j ih =>
    obtain ⟨a, b, c⟩ := ih fun m hm => h4 m (by omega)
    have hs := stepOk_iff.1 (h4 j (by omega))
    have hx := cAll_at h1 (k := (ord.getD j 0).toNat) (by omega)
    have hw := goW_bd a hx
    exact ⟨goP_at hx, by show 0 ≤ _ + _; omega, by show _ + _ ≤ _; push_cast; omega⟩
/-- The cells of the marks. -/
def uc (ord : List Int) (j : Nat) (i : Nat) : Value := .bool (usedB ord j i)
theorem infoBool : (Try.prog.info? 4).map (fun i => (i.zero, i.size, i.bytes)) = some (some (.bool false), 1, 1) := by kernel_rfl
theorem uc_set {w : World} {g n j i : Nat} {ord : List Int} (h : Row w g n (uc ord j)) (hj : j < ord.length) (hi : ord.getD j 0 = (i : Int)) : Row (w.setCell ⟨g, i, none⟩ (.bool true)) g n (uc ord (j + 1)) := by
  refine (h.set i (.bool true)).congr fun q _ => ?_
  unfold uc
  rw [usedB_succ hj, hi]
  by_cases e : q = i
  · subst e; simp
  · rw [if_neg e]
    have : ¬ (q : Int) = (i : Int) := by omega
    simp [this]
theorem orders_bad {ord : List Int} {n j : Nat} (h : stepOk ord n j = false) : (ord.getD j 0 < 0 ∨ (n : Int) - 1 < ord.getD j 0) ∨ (0 ≤ ord.getD j 0 ∧ ord.getD j 0 ≤ (n : Int) - 1 ∧ usedB ord j (ord.getD j 0) = true) := by
  have : ¬ stepOk ord n j = true := by rw [h]; simp
  rw [stepOk_iff] at this
  cases e : usedB ord j (ord.getD j 0)
  · rw [e] at this; simp only [and_true] at this; left; omega
  · by_cases h1 : 0 ≤ ord.getD j 0 ∧ ord.getD j 0 ≤ (n : Int) - 1
    · exact .inr ⟨h1.1, h1.2, rfl⟩
    · left; omega

set_option maxHeartbeats 2000000 in
theorem sWayOf_any (g n c : Nat) (ps : List DCut) (b m d : Nat) (ord : List Int) (w : World) (hl : ps.length = n) (hm : n ≤ 1048576) (hR : Row w g (n * 3) (cc ps)) (hl2 : ord.length = m) (hm2 : m ≤ 1048576) (hO : SlR w (some ⟨b, 0, none⟩) m (ic ord)) :
    Calls Try.prog 33 #[.slice (some ⟨g, 0, none⟩) n c, .slice (some ⟨b, 0, none⟩) m d] w fun e w' => e = .returned (.int .i64 (wayOf ps ord)) ∧ Below w.heap.size w w' := by
  have HL := Lib.hid hl
  have HL2 := Lib.hid hl2
  have HR := Lib.hid hR
  have HO := Lib.hid hO
  clear hR hO
  cases ho : cAll ps
  · have HC := Lib.hid ho
    have HV := Lib.hid (wayOf_no (ps := ps) (ord := ord) (.inl ho))
    clear ho hl hl2
    go_enter Try.func33, Try.ntmps33
    go_wp2_with (go_at_call 45; refine (l20Ok_any _ _ _ _ _ HL.out hm HR.out).mono ?_; rw [HC.out]; rintro e w2 ⟨rfl, hb2⟩)
    go_ret
    exact ⟨ret_int HV.out.symm, hb2⟩
  · have HC := Lib.hid ho
    by_cases h8 : n ≤ 8
    · by_cases hmn : m = n
      · have HV := Lib.hid (fun h4 => wayOf_yes (ps := ps) (ord := ord) ho (by rw [hl]; exact h8) (by rw [hl, hl2]; exact hmn) h4)
        have HMN := Lib.hid hmn
        have t1 : decide ((8 : Int) < (n : Int)) = false := by simp; omega
        have t2 : ((m : Int) != (n : Int)) = false := by simp; omega
        have hmn' : m ≤ n := by omega
        clear ho hl hl2 hmn
        go_enter Try.func33, Try.ntmps33
        obtain ⟨i0, hi0, hz0, hz1, hz2⟩ := info_parts infoBool
        go_wp2_with (first | (go_at_call 45; refine (l20Ok_any _ _ _ _ _ HL.out hm HR.out).mono ?_; rw [HC.out]; rintro e w2 ⟨rfl, hb2⟩; have HB2 := Lib.hid hb2; clear hb2) | (at_make; refine wpList_make_full _ rfl _ _ 79 rfl w2.heap.size 4 i0 _ 1 Try.underlying79 hi0 hz0 hz1 .i64 .i64 n n n rfl rfl rfl rfl (by rw [hz2]; omega) (by unfold maxLen; omega) (Nat.le_refl _) ?_; intro w3 own3 gr3))
        have R0 : Row w3 w2.heap.size n (uc ord 0) := ((Row.of_owns own3).mono (M := n) (by omega)).congr fun j hj => by
          rw [made_at _ _ _ (by omega)]
          simp [Value.cells, Nat.mod_one, uc, usedB_zero]
        have B3 : Below w.heap.size w w3 := HB2.out.trans (((Below.refl w2.heap.size _).grown gr3 (Nat.le_refl _) (by simp)).mono HB2.out.size)
        clear own3 gr3 t1 t2
        have HGU : Hid (w.heap.size ≤ w2.heap.size) := Lib.hid HB2.out.size
        generalize w2.heap.size = gu at *
        go_loopw [6, 7, 8, 9] (fun r p t i wr => ∃ j : Nat, j ≤ m ∧ i = .int .i64 j ∧ r = .int .i64 (wst ps ord j).1 ∧ p = .int .i64 (wst ps ord j).2.1 ∧ t = .int .i64 (wst ps ord j).2.2 ∧ (∀ q, q < j → stepOk ord ps.length q = true) ∧ Row wr gu n (uc ord j) ∧ Below w.heap.size w wr) (fun _ _ _ i _ => m - (intOf i).toNat)
        case atStart => exact ⟨0, Nat.zero_le _, rfl, rfl, rfl, rfl, fun q h => absurd h (Nat.not_lt_zero q), R0, B3⟩
        case round =>
          obtain ⟨j, hj, rfl, rfl, rfl, rfl, hok, hW, hB⟩ := hrel
          have HK := Lib.hid hok
          have HW := Lib.hid hW
          have HB := Lib.hid hB
          have hbd := wst_bd HC.out j hok
          obtain ⟨hat, hn0, hn1⟩ := hbd
          have HAT := Lib.hid hat
          clear hok hW hB hat
          by_cases hlt : j < m
          · obtain ⟨b', hb', hro⟩ := HO.out.row (by omega)
            simp only [Option.some.injEq, Addr.mk.injEq, and_true] at hb'
            obtain rfl := hb'
            have hbl := hro.lt
            have hgl := HR.out.lt
            have hgu := HGU.out
            have o0 := (hro.below HB.out hbl).cell hlt
            have HRO := Lib.hid (hro.below HB.out hbl)
            have HRG := Lib.hid (HR.out.below HB.out hgl)
            clear hro
            unfold ic at o0
            cases hst : stepOk ord n j
            · have HV2 := Lib.hid (wayOf_bad (ps := ps) (ord := ord) (m := j) (by rw [HL2.out]; exact hlt) (by rw [HL.out]; exact hst))
              have hbad := orders_bad hst
              clear hst
              rcases hbad with h | ⟨q0, q1, hu⟩
              · generalize ord.getD j 0 = q at *
                go_wp2_with (go_at_call 61; (first | refine (l01In_t _ _ _ _ (by omega) (by omega)).mono ?_ | refine (l01In_f _ _ _ _ (by omega)).mono ?_); rintro e w' ⟨rfl, rfl⟩)
                go_ret
                exact ⟨ret_int HV2.out.symm, HB.out⟩
              · obtain ⟨i, hi⟩ : ∃ i : Nat, ord.getD j 0 = (i : Int) := ⟨(ord.getD j 0).toNat, by omega⟩
                rw [hi] at o0 q0 q1 hu
                have hin : i < n := by omega
                have u0 := HW.out.cell hin
                unfold uc at u0
                rw [hu] at u0
                clear hu hi
                have i1 : (i : Int) < (n : Int) := by omega
                go_wp2_with (go_at_call 61; (first | refine (l01In_t _ _ _ _ (by omega) (by omega)).mono ?_ | refine (l01In_f _ _ _ _ (by omega)).mono ?_); rintro e w' ⟨rfl, rfl⟩)
                go_ret
                exact ⟨ret_int HV2.out.symm, HB.out⟩
            · obtain ⟨q0, q1, hu⟩ := stepOk_iff.1 hst
              have HK2 : Hid (∀ q, q < j + 1 → stepOk ord ps.length q = true) := Lib.hid (by
                intro q hq
                by_cases e : q = j
                · rw [e, HL.out]; exact hst
                · exact HK.out q (by omega))
              obtain ⟨i, hi⟩ : ∃ i : Nat, ord.getD j 0 = (i : Int) := ⟨(ord.getD j 0).toNat, by omega⟩
              have HW2 := Lib.hid (uc_set (i := i) HW.out (by rw [HL2.out]; exact hlt) hi)
              have hti : (ord.getD j 0).toNat = i := by omega
              have HS : Hid (wst ps ord (j + 1) = ((ps.getD i default).k, goP (wst ps ord j).1 (wst ps ord j).2.1 (ps.getD i default), (wst ps ord j).2.2 + goW (wst ps ord j).1 (wst ps ord j).2.1 (ps.getD i default))) := Lib.hid (by
                show ((ps.getD (ord.getD j 0).toNat default).k, _, _) = _
                rw [hti])
              have HI : Hid (ic ord j = .int .i64 (i : Int)) := Lib.hid (by unfold ic; rw [hi])
              rw [hi] at o0 q0 q1 hu
              have hin : i < n := by omega
              have u0 := HW.out.cell hin
              unfold uc at u0
              rw [hu] at u0
              have f0 := HW.out.frozen i
              have hx := cAll_at HC.out (k := i) (by rw [HL.out]; exact hin)
              have hwb := goW_bd HAT.out hx
              have HX := Lib.hid hx
              obtain ⟨c0, c1, c2⟩ := HRG.out.cut hin
              have i1 : (i : Int) < (n : Int) := by omega
              have n1 : b ≠ gu := by omega
              have n2 : g ≠ gu := by omega
              clear hst hu hi hti hx HK
              obtain ⟨hw0, hw1⟩ := hwb
              have CG : Hid (∀ W : World, Row W g (n * 3) (cc ps) → W.cell? ⟨g, i * 3, none⟩ = some (.int .i64 (ps.getD i default).k) ∧ W.cell? ⟨g, i * 3 + 1, none⟩ = some (.int .i64 (ps.getD i default).g) ∧ W.cell? ⟨g, i * 3 + 2, none⟩ = some (.int .i64 (ps.getD i default).s)) := Lib.hid (fun W h => h.cut hin)
              generalize ps.getD i default = x at *
              have W3 : Hid (Below w.heap.size w (wr.setCell ⟨gu, i, none⟩ (.bool true))) := Lib.hid (HB.out.setCell hgu _)
              have O3 := Lib.hid (HRO.out.set_other (p := ⟨gu, i, none⟩) n1 (.bool true))
              have G3 := Lib.hid (HRG.out.set_other (p := ⟨gu, i, none⟩) n2 (.bool true))
              go_wp2_with (first | (go_at_call 61; (first | refine (l01In_t _ _ _ _ (by omega) (by omega)).mono ?_ | refine (l01In_f _ _ _ _ (by omega)).mono ?_); rintro e w' ⟨rfl, rfl⟩) | (go_at_call 60; refine (l20Go_any _ _ x _ HAT.out HX.out).mono ?_; rintro e w4 ⟨rfl, hb4⟩; have hb4' := Lib.hid hb4; have O4 := Lib.hid (O3.out.below hb4 O3.out.lt); have G4 := Lib.hid (G3.out.below hb4 G3.out.lt); have U4 := Lib.hid (HW2.out.below hb4 HW2.out.lt); clear o0 u0 f0 c0 c1 c2 hb4; have o0 := (O4.out.cell hlt).trans (congrArg some HI.out); obtain ⟨c0, c1, c2⟩ := CG.out _ G4.out))
              go_roundw
              case rel => exact ⟨j + 1, by omega, by go_num, by rw [HS.out], by rw [HS.out], by rw [HS.out], HK2.out, U4.out, W3.out.trans (hb4'.out.mono W3.out.size)⟩
              case measure => simp [intOf]; omega
          · have hj' : j = m := by omega
            subst hj'
            have HV2 := Lib.hid (HV.out (by intro q hq; exact HK.out q (by rw [HL2.out] at hq; exact hq)))
            go_wp2
            go_ret
            exact ⟨ret_int (by rw [HV2.out, HL2.out]), HB.out⟩
      · have HC := Lib.hid ho
        have HV := Lib.hid (wayOf_no (ps := ps) (ord := ord) (.inr (.inr (by rw [hl, hl2]; exact hmn))))
        have t1 : decide ((8 : Int) < (n : Int)) = false := by simp; omega
        have t2 : ((m : Int) != (n : Int)) = true := by simp; omega
        clear ho hl hl2 hmn
        go_enter Try.func33, Try.ntmps33
        go_wp2_with (go_at_call 45; refine (l20Ok_any _ _ _ _ _ HL.out hm HR.out).mono ?_; rw [HC.out]; rintro e w2 ⟨rfl, hb2⟩)
        go_ret
        exact ⟨ret_int HV.out.symm, hb2⟩
    · have HV := Lib.hid (wayOf_no (ps := ps) (ord := ord) (.inr (.inl (by rw [hl]; omega))))
      have t1 : decide ((8 : Int) < (n : Int)) = true := by simp; omega
      clear ho hl hl2
      go_enter Try.func33, Try.ntmps33
      go_wp2_with (go_at_call 45; refine (l20Ok_any _ _ _ _ _ HL.out hm HR.out).mono ?_; rw [HC.out]; rintro e w2 ⟨rfl, hb2⟩)
      go_ret
      exact ⟨ret_int HV.out.symm, hb2⟩
end Go.Proofs.Ytlplfpoggifadaa
