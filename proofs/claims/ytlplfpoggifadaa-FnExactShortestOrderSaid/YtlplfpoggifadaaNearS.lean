/-
  The contract of NearestOrder in the reference.
  By an AI agent.
-/
import Derived.Test.YtlplfpoggifadaaNear
import Derived.Test.YtlplfpoggifadaaReg
import Derived.Deep.DeepCutAuto
namespace Go.Proofs.Ytlplfpoggifadaa
open Go.ChangeShapes Go.WideShapes Go.ChangeAt Go.RowKit Go.Joins Go.Deep
set_option maxRecDepth 100000
set_option linter.unusedVariables false

theorem GetL.own {L : List Int} {w w' : World} {e : TypeId} {B g n c : Nat} (h : Own1 w' B e g n c (L.map (Value.int .i64))) (hB : w.heap.size ≤ B) (hb : Below w.heap.size w w') : GetL L w (.returned (.slice (some ⟨g, 0, none⟩) n c)) w' := by
  have hl := h.len
  rw [List.length_map] at hl
  subst hl
  exact ⟨_, _, rfl, h.sl, .of (Nat.le_trans hB h.lt.1), hb⟩

set_option maxHeartbeats 4000000 in
theorem sNearestOrder_any (g n c : Nat) (ps : List DCut) (w : World) (hl : ps.length = n) (hm : n ≤ 1048576) (hR : Row w g (n * 3) (cc ps)) :
    Calls Try.prog 32 #[.slice (some ⟨g, 0, none⟩) n c] w (GetL (nearR ps) w) := by
  have HL := Lib.hid hl
  have HR := Lib.hid hR
  clear hR
  have HR0 := Lib.hid (HR.out.alloc (.cells #[] 3 (0, 0)))
  have HB0 := Lib.hid (Below.box w (.cells #[] 3 (0, 0)))
  have O0 := Lib.hid (Own1.empty w 3)
  cases ho : cAll ps
  · have HC := Lib.hid ho
    have HV := Lib.hid (nearR_no (ps := ps) (.inl ho))
    clear ho hl
    go_enter Try.func32, Try.ntmps32
    go_wp2_with (go_at_call 45; refine (l20Ok_any _ _ _ _ _ HL.out hm HR0.out).mono ?_; rw [HC.out]; rintro e w2 ⟨rfl, hb2⟩)
    go_ret
    exact GetL.nil HV.out (HB0.out.trans (hb2.mono HB0.out.size)) _ _
  · have HC := Lib.hid ho
    by_cases h8 : n ≤ 8
    · have HV := Lib.hid (nearR_yes ho (by rw [hl]; exact h8))
      have t1 : decide ((8 : Int) < (n : Int)) = false := by simp; omega
      clear ho hl
      go_enter Try.func32, Try.ntmps32
      obtain ⟨i0, hi0, hz0, hz1, hz2⟩ := info_parts infoBool
      go_wp2_with (first | (go_at_call 45; refine (l20Ok_any _ _ _ _ _ HL.out hm HR0.out).mono ?_; rw [HC.out]; rintro e w2 ⟨rfl, hb2⟩; have O2 := Lib.hid (O0.out.below hb2); have HB2 := Lib.hid (HB0.out.trans (hb2.mono HB0.out.size)); clear hb2) | (at_make; refine wpList_make_full _ rfl _ _ 79 rfl w2.heap.size 4 i0 _ 1 Try.underlying79 hi0 hz0 hz1 .i64 .i64 n n n rfl rfl rfl rfl (by rw [hz2]; omega) (by unfold maxLen; omega) (Nat.le_refl _) ?_; intro w3 own3 gr3))
      have R0 : Row w3 w2.heap.size n (mk (nst ps 0).1) := ((Row.of_owns own3).mono (M := n) (by omega)).congr fun j hj => by
        rw [made_at _ _ _ (by omega)]
        simp [Value.cells, Nat.mod_one, mk, nst]
      have b3 : Below w2.heap.size w2 w3 := (Below.refl w2.heap.size _).grown gr3 (Nat.le_refl _) (by simp)
      have B3 : Below w.heap.size w w3 := HB2.out.trans (b3.mono HB2.out.size)
      have O3 := O2.out.below b3
      have hgu := O2.out.lt
      have HGU : Hid (w.heap.size < w2.heap.size) := Lib.hid (by omega)
      have HG1 : Hid (w.heap.size ≠ w2.heap.size) := Lib.hid (by omega)
      clear own3 gr3 t1 b3 hgu
      generalize w2.heap.size = gu at *
      go_loopw [3, 5, 6] (fun v r p wr => ∃ (k g1 c1 : Nat), k ≤ n ∧ v = .slice (some ⟨g1, 0, none⟩) k c1 ∧ r = .int .i64 (nst ps k).2.1 ∧ p = .int .i64 (nst ps k).2.2 ∧ Own1 wr w.heap.size 3 g1 k c1 ((nst ps k).1.map (Value.int .i64)) ∧ g1 ≠ gu ∧ Row wr gu n (mk (nst ps k).1) ∧ Below w.heap.size w wr) (fun v _ _ _ => match v with | .slice _ m _ => n - m | _ => 0)
      case atStart => exact ⟨0, _, 0, Nat.zero_le _, rfl, rfl, rfl, O3, HG1.out, R0, B3⟩
      case round =>
        obtain ⟨k, g1, c1, hk, rfl, rfl, rfl, h1, hne, hW, hB⟩ := hrel
        have H1 := Lib.hid h1
        have HN := Lib.hid hne
        have HW := Lib.hid hW
        have HB := Lib.hid hB
        have HAT := Lib.hid (nst_at HC.out k (by rw [HL.out]; exact hk))
        clear h1 hne hW hB
        by_cases hlt : k < n
        · have HS : Hid (nst ps (k + 1) = ((nst ps k).1 ++ [(nb (nst ps k).2.1 (nst ps k).2.2 ps (nst ps k).1 ps.length).1],
              (ps.getD (nb (nst ps k).2.1 (nst ps k).2.2 ps (nst ps k).1 ps.length).1.toNat default).k,
              goP (nst ps k).2.1 (nst ps k).2.2 (ps.getD (nb (nst ps k).2.1 (nst ps k).2.2 ps (nst ps k).1 ps.length).1.toNat default))) := Lib.hid rfl
          have HLn := Lib.hid (nst_len ps k)
          generalize (nst ps k).1 = L at *
          generalize (nst ps k).2.1 = r at *
          generalize (nst ps k).2.2 = p at *
          have hgl := HR.out.lt
          have hgu := HGU.out
          have HRG := Lib.hid (HR.out.below HB.out hgl)
          go_wp2
          rename World => wo
          go_loopw [7, 8, 9] (fun be le i wi => ∃ q : Nat, q ≤ n ∧ i = .int .i64 q ∧ be = .int .i64 (nb r p ps L q).1 ∧ le = .int .i64 (nb r p ps L q).2 ∧ Below wo.heap.size wo wi) (fun _ _ i _ => n - (intOf i).toNat)
          case atStart => exact ⟨0, Nat.zero_le _, rfl, rfl, rfl, Below.refl _ _⟩
          case round =>
            rename World => wi
            obtain ⟨q, hq, rfl, rfl, rfl, hBi⟩ := hrel
            have HBi := Lib.hid hBi
            clear hBi
            have hnb := nb_bd (L := L) HAT.out HC.out q (by rw [HL.out]; exact hq)
            obtain ⟨hb1, hb2, hb3⟩ := hnb
            by_cases hqn : q < n
            · have hx := cAll_at HC.out (k := q) (by rw [HL.out]; exact hqn)
              have CG : Hid (∀ W : World, Row W g (n * 3) (cc ps) → W.cell? ⟨g, q * 3, none⟩ = some (.int .i64 (ps.getD q default).k) ∧ W.cell? ⟨g, q * 3 + 1, none⟩ = some (.int .i64 (ps.getD q default).g) ∧ W.cell? ⟨g, q * 3 + 2, none⟩ = some (.int .i64 (ps.getD q default).s)) := Lib.hid (fun W h => h.cut hqn)
              have HT := Lib.hid (fun h h' => nb_take (r := r) (p := p) (ps := ps) (L := L) (i := q) h h')
              have HI := Lib.hid (fun h => nb_in (r := r) (p := p) (ps := ps) (L := L) (i := q) h)
              have HV' := Lib.hid (fun h h' => nb_leave (r := r) (p := p) (ps := ps) (L := L) (i := q) h h')
              have hgm := goM_bd HAT.out hx
              have hgw : goW r p (ps.getD q default) = goM r p (ps.getD q default) + (ps.getD q default).s - (ps.getD q default).g := rfl
              have HX := Lib.hid hx
              have MU : Hid (∀ W : World, Row W gu n (mk L) → W.cell? ⟨gu, q, none⟩ = some (.bool (L.contains (q : Int)))) := Lib.hid (fun W h => h.cell hqn)
              obtain ⟨_, _, _, _, m5, m6⟩ := hgm
              obtain ⟨x1, x2, x3, x4, x5⟩ := cOk_iff.1 hx
              clear hx
              generalize ps.getD q default = x at *
              have s1 : IntKind.i64.wrap (x.s - x.g) = x.s - x.g := IntWalk.i64_in _ (by omega)
              have s2 : IntKind.i64.wrap (goW r p x - (x.s - x.g)) = goM r p x := by rw [IntWalk.i64_in _ (by omega), hgw]; omega
              have S1 := Lib.hid s1
              have S2 := Lib.hid s2
              clear s1 s2 hgw
              have G1 := Lib.hid (HRG.out.below HBi.out HRG.out.lt)
              have U1 := Lib.hid (HW.out.below HBi.out HW.out.lt)
              obtain ⟨c0, c1', c2⟩ := CG.out _ G1.out
              have i1 : (q : Int) < (n : Int) := by omega
              have i0 : (0 : Int) ≤ (q : Int) := by omega
              generalize hBE : (nb r p ps L q).1 = be at *
              generalize hLE : (nb r p ps L q).2 = le at *
              have HBE := Lib.hid hBE
              have HLE := Lib.hid hLE
              clear hBE hLE
              generalize hCC : L.contains (q : Int) = ct at *
              clear hCC
              have hb1' : -1 ≤ be := by omega
              clear hb1
              go_upto_region 14 with (go_at_call 60; refine (l20Go_any _ _ x _ HAT.out HX.out).mono ?_; rintro e w4 ⟨rfl, hb4⟩; have HB4 := Lib.hid hb4; have G4 := Lib.hid (G1.out.below hb4 G1.out.lt); have U4 := Lib.hid (U1.out.below hb4 U1.out.lt); clear c0 c1' c2 hb4; obtain ⟨c0, c1', c2⟩ := CG.out _ G4.out)
              have s1 := S1.out
              have s2 := S2.out
              go_quiet (fail)
              clear s1 s2
              obtain ⟨w5, hw5⟩ : ∃ w5 : World, w5 = w4.drewN nq := ⟨_, rfl⟩
              have HB5 : Hid (Below wo.heap.size wo w5) := Lib.hid (hw5 ▸ below_drewN (HBi.out.trans (HB4.out.mono HBi.out.size)) _)
              have u5 := MU.out w5 (hw5 ▸ U4.out.below (below_drewN (Below.refl _ _) _) U4.out.lt)
              rw [← hw5]
              clear hw5
              cases ct
              · by_cases ht : be < 0 ∨ goM r p x < le
                · have HT2 := Lib.hid (HT.out rfl ht)
                  by_cases hbe : be < 0
                  · go_wp2
                    go_roundw
                    case rel => exact ⟨q + 1, by omega, by go_num, by rw [HT2.out], by rw [HT2.out], HB5.out⟩
                    case measure => simp [intOf]; omega
                  · have hbe' : goM r p x < le := by omega
                    go_wp2
                    go_roundw
                    case rel => exact ⟨q + 1, by omega, by go_num, by rw [HT2.out], by rw [HT2.out], HB5.out⟩
                    case measure => simp [intOf]; omega
                · have HT2 := Lib.hid (HV'.out (by omega) (by omega))
                  have hbe : 0 ≤ be := by omega
                  have hbe' : le ≤ goM r p x := by omega
                  clear ht
                  go_wp2
                  go_roundw
                  case rel => exact ⟨q + 1, by omega, by go_num, by rw [HT2.out, HBE.out], by rw [HT2.out, HLE.out], HB5.out⟩
                  case measure => simp [intOf]; omega
              · have HT2 := Lib.hid (HI.out rfl)
                go_wp2
                go_roundw
                case rel => exact ⟨q + 1, by omega, by go_num, by rw [HT2.out, HBE.out], by rw [HT2.out, HLE.out], HB5.out⟩
                case measure => simp [intOf]; omega
            · have hqe : q = n := by omega
              subst hqe
              have hfd := nb_found (L := L) HAT.out HC.out (by rw [HLn.out, HL.out]; exact hlt)
              rw [HL.out] at hfd HS
              obtain ⟨b, hb⟩ : ∃ b : Nat, (nb r p ps L q).1 = (b : Int) := ⟨(nb r p ps L q).1.toNat, by omega⟩
              rw [hb] at hfd HS
              have hbn : b < q := by omega
              have htn : ((b : Int)).toNat = b := by omega
              rw [htn] at HS
              have hx := cAll_at HC.out (k := b) (by rw [HL.out]; exact hbn)
              have HX := Lib.hid hx
              have CG : Hid (∀ W : World, Row W g (q * 3) (cc ps) → W.cell? ⟨g, b * 3, none⟩ = some (.int .i64 (ps.getD b default).k) ∧ W.cell? ⟨g, b * 3 + 1, none⟩ = some (.int .i64 (ps.getD b default).g) ∧ W.cell? ⟨g, b * 3 + 2, none⟩ = some (.int .i64 (ps.getD b default).s)) := Lib.hid (fun W h => h.cut hbn)
              clear hx
              generalize ps.getD b default = x at *
              have G1 := Lib.hid (HRG.out.below HBi.out HRG.out.lt)
              have U1 := Lib.hid (HW.out.below HBi.out HW.out.lt)
              have H1i := Lib.hid (H1.out.below HBi.out)
              obtain ⟨c0, c1', c2⟩ := CG.out _ G1.out
              have i1 : (b : Int) < (q : Int) := by omega
              have i0 : (0 : Int) ≤ (b : Int) := by omega
              have hl1 := H1.out.lt
              have n2 : g ≠ gu := by omega
              have HB6 := Lib.hid hb
              rw [hb]
              clear hb hb1 htn hfd
              go_wp2_with (first | (go_at_call 60; refine (l20Go_any _ _ x _ HAT.out HX.out).mono ?_; rintro e w4 ⟨rfl, hb4⟩; have HB4 := Lib.hid (HBi.out.trans (hb4.mono HBi.out.size)); have G4 := Lib.hid (G1.out.below hb4 G1.out.lt); have U4 := Lib.hid (U1.out.below hb4 U1.out.lt); have H14 := Lib.hid ((H1i.out.below hb4).set_other (p := ⟨gu, b, none⟩) HN.out (.bool true)); clear c0 c1' c2 hb4; obtain ⟨c0, c1', c2⟩ := CG.out _ G4.out; have u4 := U4.out.cell hbn; unfold mk at u4; have f4 := U4.out.frozen b) | (at_builtin; refine append_one rfl _ _ 37 rfl Try.underlying37 infoInt rfl (by omega) rfl (H14.out.alloc _) (by omega) rfl (new_cell (by simp)) rfl ?_; intro g' c' w6 o6 oo6 l6; have O6 := Lib.hid o6; have OO6 := Lib.hid oo6; have L6 := Lib.hid l6; clear o6 oo6 l6))
              go_roundw
              case rel =>
                have zb := HB4.out.size
                have hl0 := HB.out.size
                have BW : Below w.heap.size w (((w4.setCell ⟨gu, b, none⟩ (.bool true)).alloc (.cells #[.int .i64 b] 3))) :=
                  (((HB.out.trans (HB4.out.mono HB.out.size)).setCell (by simp; omega) _).alloc (by simp; omega) _)
                have ul := U4.out.lt
                refine ⟨k + 1, g', c', by omega, rfl, by rw [HS.out], by rw [HS.out], ?_, ?_, ?_, BW.trans (OO6.out.toBelow hl1.1 BW.size)⟩
                · rw [HS.out, List.map_append]; exact O6.out
                · rcases L6.out with h | h
                  · rw [h]; exact HN.out
                  · simp at h; omega
                · rw [HS.out]
                  exact OO6.out.row ((mk_set U4.out).alloc _) (Ne.symm HN.out)
              case measure => show q - (k + 1) < q - k; omega
        · have hk' : k = n := by omega
          subst hk'
          go_wp2
          go_ret
          rw [HV.out, HL.out]
          exact GetL.own H1.out (Nat.le_refl _) HB.out
    · have HV := Lib.hid (nearR_no (ps := ps) (.inr (by rw [hl]; omega)))
      have t1 : decide ((8 : Int) < (n : Int)) = true := by simp; omega
      clear ho hl
      go_enter Try.func32, Try.ntmps32
      go_wp2_with (go_at_call 45; refine (l20Ok_any _ _ _ _ _ HL.out hm HR0.out).mono ?_; rw [HC.out]; rintro e w2 ⟨rfl, hb2⟩)
      go_ret
      exact GetL.nil HV.out (HB0.out.trans (hb2.mono HB0.out.size)) _ _
end Go.Proofs.Ytlplfpoggifadaa
