/-
  Contracts of slices.Index and slices.Contains at integers, and of NearestOrder in the program.
  By an AI agent.
-/
import Derived.Test.YtlplfpoggifadaaNearS
import Derived.Test.YtlplfpoggifadaaWayI
namespace Go.Proofs.Ytlplfpoggifadaa
open Go.ChangeShapes Go.WideShapes Go.ChangeAt Go.RowKit Go.Joins Go.Deep
set_option maxRecDepth 100000
set_option linter.unusedVariables false

/-- What Index finds: a number where x is there, -1 where it is not. -/
def IdxP (L : List Int) (x : Int) (e : Ending) : Prop := ∃ z : Int, e = .returned (.int .i64 z) ∧ ((L.contains x = true ∧ 0 ≤ z) ∨ (L.contains x = false ∧ z = -1))
theorem index_int (a : Option Addr) (n c : Nat) (L : List Int) (x : Int) (w : World) (hl : L.length = n) (hm : n ≤ 1048576) (hR : SlR w a n (ic L)) :
    Calls Try.prog 74 #[.slice a n c, .int .i64 x] w fun e w' => IdxP L x e ∧ w = w' := by
  have HR := Lib.hid hR
  have HL := Lib.hid hl
  clear hR hl
  go_enter Try.func74, Try.ntmps74
  go_wp2
  go_loop [8] (fun i => ∃ k : Nat, k ≤ n ∧ i = .int .i64 k ∧ (∀ j, j < k → L.getD j 0 ≠ x)) (fun i => n - (intOf i).toNat)
  case atStart => exact ⟨0, Nat.zero_le _, rfl, fun j h => absurd h (Nat.not_lt_zero j)⟩
  case round =>
    obtain ⟨k, hk, rfl, hok⟩ := hrel
    have HO := Lib.hid hok
    clear hok
    by_cases hlt : k < n
    · obtain ⟨g, rfl, hr⟩ := HR.out.row (by omega)
      have c0 := hr.cell hlt
      unfold ic at c0
      clear hr
      by_cases hx : L.getD k 0 = x
      · have HV : Hid (L.contains x = true) := Lib.hid (by
          rw [List.contains_iff_mem, ← hx, getD_at _ _ (by rw [HL.out]; exact hlt)]
          exact List.getElem_mem _)
        have hx' : (x == L.getD k 0) = true := by simpa using hx.symm
        clear HO hx
        generalize L.getD k 0 = q at c0 hx'
        go_wp2
        go_ret
        exact ⟨⟨_, rfl, .inl ⟨HV.out, by omega⟩⟩, rfl⟩
      · have HO2 : Hid (∀ j, j < k + 1 → L.getD j 0 ≠ x) := Lib.hid (by
          intro j hj
          by_cases e : j = k
          · rw [e]; exact hx
          · exact HO.out j (by omega))
        have hx' : (x == L.getD k 0) = false := by simpa using (Ne.symm hx)
        clear HO hx
        generalize L.getD k 0 = q at c0 hx'
        go_wp2
        go_round
        case rel => exact ⟨k + 1, by omega, by go_num, HO2.out⟩
        case measure => simp [intOf]; omega
    · have HV : Hid (L.contains x = false) := Lib.hid (by
        cases e : L.contains x
        · rfl
        · rw [List.contains_iff_mem] at e
          obtain ⟨j, hj, hjx⟩ := List.mem_iff_getElem.1 e
          exact absurd (by rw [getD_at _ _ hj]; exact hjx) (HO.out j (by rw [HL.out] at hj; omega)))
      go_wp2
      go_ret
      exact ⟨⟨_, rfl, .inr ⟨HV.out, rfl⟩⟩, rfl⟩
theorem contains_int (a : Option Addr) (n c : Nat) (L : List Int) (x : Int) (w : World) (hl : L.length = n) (hm : n ≤ 1048576) (hR : SlR w a n (ic L)) (b : Bool) (hb : L.contains x = b) :
    Calls Try.prog 56 #[.slice a n c, .int .i64 x] w fun e w' => e = .returned (.bool b) ∧ w = w' := by
  have HR := Lib.hid hR
  have HL := Lib.hid hl
  have HB := Lib.hid hb
  clear hR hl hb
  cases b
  · go_enter Try.func56, Try.ntmps56
    go_wp2_with fail
    refine (index_int _ _ _ L _ _ HL.out hm HR.out).mono ?_
    rintro e w' ⟨⟨z, rfl, hz⟩, rfl⟩
    have hz' : z = -1 := by
      rcases hz with ⟨h, _⟩ | ⟨_, h⟩
      · rw [HB.out] at h; cases h
      · exact h
    subst hz'
    clear hz
    go_wp2_with fail
    go_ret
    exact ⟨rfl, rfl⟩
  · go_enter Try.func56, Try.ntmps56
    go_wp2_with fail
    refine (index_int _ _ _ L _ _ HL.out hm HR.out).mono ?_
    rintro e w' ⟨⟨z, rfl, hz⟩, rfl⟩
    have hz' : 0 ≤ z := by
      rcases hz with ⟨_, h⟩ | ⟨h, _⟩
      · exact h
      · rw [HB.out] at h; cases h
    clear hz
    go_wp2_with fail
    go_ret
    exact ⟨rfl, rfl⟩

set_option maxHeartbeats 4000000 in
theorem iNearestOrder_any (g n c : Nat) (ps : List DCut) (w : World) (hl : ps.length = n) (hm : n ≤ 1048576) (hR : Row w g (n * 3) (cc ps)) :
    Calls Try.prog 28 #[.slice (some ⟨g, 0, none⟩) n c] w (GetL (nearR ps) w) := by
  have HL := Lib.hid hl
  have HR := Lib.hid hR
  clear hR
  by_cases h1 : cAll ps = true ∧ n ≤ 8
  · obtain ⟨ho, h8⟩ := h1
    have HC := Lib.hid ho
    have HD : Hid ((cAll ps && decide ((n : Int) ≤ 8)) = true) := Lib.hid (by rw [ho]; simp; omega)
    have HV := Lib.hid (nearR_yes ho (by rw [hl]; exact h8))
    clear ho hl
    go_enter Try.func28, Try.ntmps28
    go_wp2_with (go_at_call 48; refine (areCuts_any _ _ _ _ _ _ HL.out hm HR.out).mono ?_; rw [HD.out]; rintro e w2 ⟨rfl, hb2⟩; have HB2 := Lib.hid hb2; clear hb2)
    have O0 : Hid (Own1 ((w2.alloc (.cells #[] 3)).alloc (.cells #[.int .i64 0, .int .i64 0, .int .i64 0] 74)) w2.heap.size 3 w2.heap.size 0 0 []) := Lib.hid ((Own1.empty w2 3).alloc _)
    have hz1 : (w2.alloc (.cells #[] 3)).heap.size = w2.heap.size + 1 := by simp
    have K0 := Row.new3 (w2.alloc (.cells #[] 3)) (.int .i64 0) (.int .i64 0) (.int .i64 0) 74
    rw [hz1] at K0
    have K0 := Lib.hid K0
    have B0 : Hid (Below w.heap.size w ((w2.alloc (.cells #[] 3)).alloc (.cells #[.int .i64 0, .int .i64 0, .int .i64 0] 74))) := Lib.hid (((HB2.out.alloc HB2.out.size _).alloc (by have := HB2.out.size; simp; omega) _))
    have HGB : Hid (w.heap.size ≤ w2.heap.size) := Lib.hid HB2.out.size
    have HG1 : Hid (w2.heap.size ≠ w2.heap.size + 1) := Lib.hid (by omega)
    clear hz1
    go_loopw [4, 19] (fun v i wr => ∃ (k g1 c1 : Nat) (tw : Int), k ≤ n ∧ i = .int .i64 k ∧ v = .slice (some ⟨g1, 0, none⟩) k c1 ∧ Own1 wr w2.heap.size 3 g1 k c1 ((nst ps k).1.map (Value.int .i64)) ∧ g1 ≠ w2.heap.size + 1 ∧ Row wr (w2.heap.size + 1) 3 (tri (.int .i64 (nst ps k).2.1) (.int .i64 (nst ps k).2.2) (.int .i64 tw)) ∧ 0 ≤ tw ∧ tw ≤ 300 * k ∧ Below w.heap.size w wr) (fun _ i _ => n - (intOf i).toNat)
    case atStart => exact ⟨0, _, 0, 0, Nat.zero_le _, rfl, rfl, O0.out, HG1.out, K0.out, Int.le_refl _, Int.le_refl _, B0.out⟩
    case round =>
      obtain ⟨k, g1, c1, tw, hk, rfl, rfl, h1, hne, hkn, ht0, ht1, hB⟩ := hrel
      have H1 := Lib.hid h1
      have HN := Lib.hid hne
      have HKn := Lib.hid hkn
      have HB := Lib.hid hB
      have HAT := Lib.hid (nst_at HC.out k (by rw [HL.out]; exact hk))
      have hg0 := HGB.out
      have hbkl := hkn.lt
      clear h1 hne hkn hB
      have hl1 := H1.out.lt
      generalize hbk : w2.heap.size + 1 = bk at *
      by_cases hlt : k < n
      · have HS : Hid (nst ps (k + 1) = ((nst ps k).1 ++ [(nb (nst ps k).2.1 (nst ps k).2.2 ps (nst ps k).1 ps.length).1],
            (ps.getD (nb (nst ps k).2.1 (nst ps k).2.2 ps (nst ps k).1 ps.length).1.toNat default).k,
            goP (nst ps k).2.1 (nst ps k).2.2 (ps.getD (nb (nst ps k).2.1 (nst ps k).2.2 ps (nst ps k).1 ps.length).1.toNat default))) := Lib.hid rfl
        have HLn := Lib.hid (nst_len ps k)
        generalize (nst ps k).1 = L at *
        generalize (nst ps k).2.1 = r at *
        generalize (nst ps k).2.2 = p at *
        have hgl := HR.out.lt
        have HRG := Lib.hid (HR.out.below HB.out hgl)
        go_wp2
        rename World => wo
        go_loopw [5, 6, 23] (fun be le i wi => ∃ q : Nat, q ≤ n ∧ i = .int .i64 q ∧ be = .int .i64 (nb r p ps L q).1 ∧ le = .int .i64 (nb r p ps L q).2 ∧ Below wo.heap.size wo wi) (fun _ _ i _ => n - (intOf i).toNat)
        case atStart => exact ⟨0, Nat.zero_le _, rfl, rfl, rfl, Below.refl _ _⟩
        case round =>
          rename World => wi
          obtain ⟨q, hq, rfl, rfl, rfl, hBi⟩ := hrel
          have HBi := Lib.hid hBi
          clear hBi
          have hnb := nb_bd (L := L) HAT.out HC.out q (by rw [HL.out]; exact hq)
          obtain ⟨hb1, hb2, hb3⟩ := hnb
          have K1 := Lib.hid (HKn.out.below HBi.out hbkl)
          have G1 := Lib.hid (HRG.out.below HBi.out HRG.out.lt)
          have H1i := Lib.hid (H1.out.below HBi.out)
          by_cases hqn : q < n
          · have hx := cAll_at HC.out (k := q) (by rw [HL.out]; exact hqn)
            have CG : Hid (∀ W : World, Row W g (n * 3) (cc ps) → W.cell? ⟨g, q * 3, none⟩ = some (.int .i64 (ps.getD q default).k) ∧ W.cell? ⟨g, q * 3 + 1, none⟩ = some (.int .i64 (ps.getD q default).g) ∧ W.cell? ⟨g, q * 3 + 2, none⟩ = some (.int .i64 (ps.getD q default).s)) := Lib.hid (fun W h => h.cut hqn)
            have HT := Lib.hid (fun h h' => nb_take (r := r) (p := p) (ps := ps) (L := L) (i := q) h h')
            have HI := Lib.hid (fun h => nb_in (r := r) (p := p) (ps := ps) (L := L) (i := q) h)
            have HV' := Lib.hid (fun h h' => nb_leave (r := r) (p := p) (ps := ps) (L := L) (i := q) h h')
            have hgm := goM_bd HAT.out hx
            have HX := Lib.hid hx
            obtain ⟨_, _, _, _, m5, m6⟩ := hgm
            clear hx
            generalize ps.getD q default = x at *
            obtain ⟨c0, c1', c2⟩ := CG.out _ G1.out
            generalize hBE : (nb r p ps L q).1 = be at *
            generalize hLE : (nb r p ps L q).2 = le at *
            have HBE := Lib.hid hBE
            have HLE := Lib.hid hLE
            clear hBE hLE
            generalize hCC : L.contains (q : Int) = ct at *
            have HCC := Lib.hid hCC
            clear hCC
            have hb1' : -1 ≤ be := by omega
            clear hb1
            obtain ⟨⟨k0, k1, k2⟩, _⟩ := K1.out.tri3
            have kl := K1.out.lt
            have kne : bk ≠ wi.heap.size := Nat.ne_of_lt kl
            have K1b := Lib.hid (K1.out.alloc (.cells #[.int .i64 x.k, .int .i64 x.g, .int .i64 x.s] 51 (0, 0)))
            have hcs : (goB r p x < goA r p x ∧ goM r p x = goB r p x) ∨ (goA r p x ≤ goB r p x ∧ goM r p x = goA r p x) := by unfold goM; split <;> omega
            rcases hcs with ⟨hab, hM⟩ | ⟨hab, hM⟩
            all_goals rw [hM] at m5 m6 HV' HT
            all_goals clear hM
            · cases ct
              · go_wp2_with (first | (go_at_call 55; refine (away_any r p tw x _ HAT.out HX.out).mono ?_; rintro e w4 ⟨rfl, hb4⟩; have HB4 := Lib.hid (((Below.box wi _).trans (hb4.mono (by simp)))); clear hb4) | (go_at_call 56; refine (contains_int _ _ _ L _ _ HLn.out (by omega) (H1i.out.below HB4.out).sl _ HCC.out).mono ?_; rintro e w' ⟨rfl, rfl⟩))
                all_goals
                  have HB9 := Lib.hid (HBi.out.trans (HB4.out.mono HBi.out.size))
                  go_roundw
                  case rel =>
                    by_cases hw : be < 0 ∨ goB r p x < le
                    · have HT2 := HT.out (by first | rfl | trivial) hw
                      first
                      | (exfalso; omega)
                      | exact ⟨q + 1, by omega, by go_num, by rw [HT2], by rw [HT2], HB9.out⟩
                    · have HT2 := HV'.out (by omega) (by omega)
                      first
                      | (exfalso; omega)
                      | exact ⟨q + 1, by omega, by go_num, by rw [HT2, HBE.out], by rw [HT2, HLE.out], HB9.out⟩
                  case measure => simp [intOf]; omega
              · go_wp2_with (first | (go_at_call 55; refine (away_any r p tw x _ HAT.out HX.out).mono ?_; rintro e w4 ⟨rfl, hb4⟩; have HB4 := Lib.hid (((Below.box wi _).trans (hb4.mono (by simp)))); clear hb4) | (go_at_call 56; refine (contains_int _ _ _ L _ _ HLn.out (by omega) (H1i.out.below HB4.out).sl _ HCC.out).mono ?_; rintro e w' ⟨rfl, rfl⟩))
                have HB9 := Lib.hid (HBi.out.trans (HB4.out.mono HBi.out.size))
                have HT2 := Lib.hid (HI.out (by first | rfl | trivial))
                go_roundw
                case rel => exact ⟨q + 1, by omega, by go_num, by rw [HT2.out, HBE.out], by rw [HT2.out, HLE.out], HB9.out⟩
                case measure => simp [intOf]; omega
            · cases ct
              · go_wp2_with (first | (go_at_call 55; refine (away_any r p tw x _ HAT.out HX.out).mono ?_; rintro e w4 ⟨rfl, hb4⟩; have HB4 := Lib.hid (((Below.box wi _).trans (hb4.mono (by simp)))); clear hb4) | (go_at_call 56; refine (contains_int _ _ _ L _ _ HLn.out (by omega) (H1i.out.below HB4.out).sl _ HCC.out).mono ?_; rintro e w' ⟨rfl, rfl⟩))
                all_goals
                  have HB9 := Lib.hid (HBi.out.trans (HB4.out.mono HBi.out.size))
                  go_roundw
                  case rel =>
                    by_cases hw : be < 0 ∨ goA r p x < le
                    · have HT2 := HT.out (by first | rfl | trivial) hw
                      first
                      | (exfalso; omega)
                      | exact ⟨q + 1, by omega, by go_num, by rw [HT2], by rw [HT2], HB9.out⟩
                    · have HT2 := HV'.out (by omega) (by omega)
                      first
                      | (exfalso; omega)
                      | exact ⟨q + 1, by omega, by go_num, by rw [HT2, HBE.out], by rw [HT2, HLE.out], HB9.out⟩
                  case measure => simp [intOf]; omega
              · go_wp2_with (first | (go_at_call 55; refine (away_any r p tw x _ HAT.out HX.out).mono ?_; rintro e w4 ⟨rfl, hb4⟩; have HB4 := Lib.hid (((Below.box wi _).trans (hb4.mono (by simp)))); clear hb4) | (go_at_call 56; refine (contains_int _ _ _ L _ _ HLn.out (by omega) (H1i.out.below HB4.out).sl _ HCC.out).mono ?_; rintro e w' ⟨rfl, rfl⟩))
                have HB9 := Lib.hid (HBi.out.trans (HB4.out.mono HBi.out.size))
                have HT2 := Lib.hid (HI.out (by first | rfl | trivial))
                go_roundw
                case rel => exact ⟨q + 1, by omega, by go_num, by rw [HT2.out, HBE.out], by rw [HT2.out, HLE.out], HB9.out⟩
                case measure => simp [intOf]; omega
          · have hqe : q = n := by omega
            subst hqe
            have hfd := nb_found (L := L) HAT.out HC.out (by rw [HLn.out, HL.out]; exact hlt)
            rw [HL.out] at hfd HS
            obtain ⟨b, hb⟩ : ∃ b : Nat, (nb r p ps L q).1 = (b : Int) := ⟨(nb r p ps L q).1.toNat, by omega⟩
            rw [hb] at hfd HS
            have hbn : b < q := by omega
            have htn : ((b : Int)).toNat = b := by omega
            rw [htn] at HS
            have hx := cAll_at HC.out (k := b) (by rw [HL.out]; exact hbn)
            have HX := Lib.hid hx
            have hgw := goW_bd HAT.out hx
            obtain ⟨gw0, gw1⟩ := hgw
            have CG : Hid (∀ W : World, Row W g (q * 3) (cc ps) → W.cell? ⟨g, b * 3, none⟩ = some (.int .i64 (ps.getD b default).k) ∧ W.cell? ⟨g, b * 3 + 1, none⟩ = some (.int .i64 (ps.getD b default).g) ∧ W.cell? ⟨g, b * 3 + 2, none⟩ = some (.int .i64 (ps.getD b default).s)) := Lib.hid (fun W h => h.cut hbn)
            clear hx
            generalize ps.getD b default = x at *
            have i1 : (b : Int) < (q : Int) := by omega
            have i0 : (0 : Int) ≤ (b : Int) := by omega
            have hbkn : bk ≠ g1 := Ne.symm HN.out
            have hgn : g ≠ g1 := by omega
            rw [hb]
            clear hb hb1 htn hfd hb2 hb3
            go_upto_region 16 with (at_builtin; refine append_one rfl _ _ 37 rfl Try.underlying37 infoInt rfl (by omega) rfl (H1i.out.alloc _) (by omega) rfl (new_cell (by simp)) rfl ?_; intro g' c' w6 o6 oo6 l6; have O6 := Lib.hid o6; have OO6 := Lib.hid oo6; have L6 := Lib.hid l6; clear o6 oo6 l6)
            have K6 := Lib.hid (OO6.out.row (K1.out.alloc (.cells #[.int .i64 b] 3 (0, 0))) hbkn)
            have G6 := Lib.hid (OO6.out.row (G1.out.alloc (.cells #[.int .i64 b] 3 (0, 0))) hgn)
            have B6 : Hid (Below w.heap.size w w6) := Lib.hid (by
              have b1 := HB.out.trans (HBi.out.mono HB.out.size)
              have b2 := b1.alloc (o := .cells #[.int .i64 b] 3 (0, 0)) b1.size
              exact b2.trans (OO6.out.toBelow (by omega) b2.size))
            have HNB : Hid (g' ≠ bk) := Lib.hid (by
              have := K1.out.lt
              rcases L6.out with h | h
              · rw [h]; exact HN.out
              · simp at h; omega)
            obtain ⟨c0, c1', c2⟩ := CG.out _ G6.out
            obtain ⟨⟨k0, k1, k2⟩, k3, k4, k5⟩ := K6.out.tri3
            have hwb : w.heap.size ≤ bk := by omega
            go_region_law (go_simp; go_at_call 57; refine (cut_any r p tw x _ HAT.out HX.out ht0 (by omega)).mono ?_; rintro e w4 ⟨rfl, hb4⟩; have hb4' := Lib.hid hb4; have K4 := Lib.hid (K6.out.drew.below hb4 K6.out.lt); have O4 := Lib.hid (O6.out.drew.below hb4); clear k0 k1 k2 k3 k4 k5 hb4; obtain ⟨⟨k0, k1, k2⟩, k3, k4, k5⟩ := K4.out.tri3)
            all_goals
              go_wp2
              go_roundw
              case rel => exact ⟨k + 1, g', c', tw + goW r p x, by omega, by go_num, rfl, by rw [HS.out, List.map_append]; exact ((O4.out.set_other (p := ⟨bk, 0, none⟩) HNB.out _).set_other (p := ⟨bk, 1, none⟩) HNB.out _).set_other (p := ⟨bk, 2, none⟩) HNB.out _, HNB.out, by rw [HS.out]; exact K4.out.tset3, by omega, by push_cast; omega, (((B6.out.drew.trans (hb4'.out.mono B6.out.drew.size)).setCell hwb _).setCell hwb _).setCell hwb _⟩
              case measure => simp [intOf]; omega
      · have hk' : k = n := by omega
        subst hk'
        go_wp2
        go_ret
        rw [HV.out, HL.out]
        exact GetL.own H1.out HGB.out HB.out
  · have hc : cAll ps = false ∨ 8 < n := by
      cases e : cAll ps
      · exact .inl rfl
      · right; rw [e] at h1; simp only [true_and] at h1; omega
    have HD : Hid ((cAll ps && decide ((n : Int) ≤ 8)) = false) := Lib.hid (by
      rcases hc with h | h
      · rw [h]; rfl
      · have : ¬ (n : Int) ≤ 8 := by omega
        rw [decide_eq_false this, Bool.and_false])
    have HV := Lib.hid (nearR_no (ps := ps) (by rw [hl]; exact hc))
    clear h1 hc hl
    go_enter Try.func28, Try.ntmps28
    go_wp2_with (go_at_call 48; refine (areCuts_any _ _ _ _ _ _ HL.out hm HR.out).mono ?_; rw [HD.out]; rintro e w2 ⟨rfl, hb2⟩)
    go_ret
    exact GetL.nil HV.out hb2 _ _
end Go.Proofs.Ytlplfpoggifadaa
