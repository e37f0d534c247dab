/-
  Contract of TwoColors in the reference.
  By an AI agent.
-/
import Derived.Test.YteojoifhmaoiaaaTwoL
import Derived.Test.YteojoifhmaoiaaaTouchM
import Derived.Test.YteojoifhmaoiaaaFold
namespace Go.Proofs.Yteojoifhmaoiaaa
open Go.ChangeShapes Go.WideShapes Go.ChangeAt Go.RowKit Go.Joins Go.Deep
set_option maxRecDepth 100000
set_option linter.unusedVariables false

def pAt (T : Rows) (s j : Nat) : Nat := ((rowN T j).getD s 0).toNat
def twoR (d f : Int) (n : Nat) (ss : List ByteArray) (F : Nat → Nat) (k : Nat) : List Int :=
  if cardOkB d f ss = true then two (pAt (touchR d f n ss F k) 0) (pAt (touchR d f n ss F k) 1) (touchR d f n ss F k).length k k else []
/-- A list of numbers and a Bool, as the walks hand them back. -/
def GetLB (L : List Int) (r : Bool) (w : World) (e : Ending) (w' : World) : Prop := ∃ a c, e = .returned (.tuple #[.slice a L.length c, .bool r]) ∧ SlR w' a L.length (ic L) ∧ Fresh w.heap.size a L.length ∧ Below w.heap.size w w'
theorem infoIntW : (Try.prog.info? 3).map (fun i => (i.zero, i.size, i.bytes)) = some (some (.int .i64 0), 1, 8) := by kernel_rfl
theorem map_set (o : List Int) (i : Nat) (v : Int) : (o.map (Value.int .i64)).set i (.int .i64 v) = (o.set i v).map (Value.int .i64) := by simp [List.map_set]
theorem own_cell {w : World} {B g n c : Nat} {e : TypeId} {o : List Int} (h : Own1 w B e g n c (o.map (Value.int .i64))) {i : Nat} (hi : i < n) : w.cell? ⟨g, i, none⟩ = some (.int .i64 (o.getD i 0)) := h.cells.cell hi
theorem own_set {w : World} {B g n c : Nat} {e : TypeId} {o : List Int} (h : Own1 w B e g n c (o.map (Value.int .i64))) (i : Nat) (v : Int) : Own1 (w.setCell ⟨g, i, none⟩ (.int .i64 v)) B e g n c ((o.set i v).map (Value.int .i64)) := by
  rw [← map_set]; exact h.set i _
set_option maxHeartbeats 8000000 in
theorem sTwoColors_any (d f : Int) (a : Option Addr) (n c : Nat) (ss : List ByteArray) (F : Nat → Nat) (k : Nat) (w : World) (hF : FcO d f n ss F k) (hl : ss.length = n) (hm : (n : Int) + tot ss n ≤ 1048576) (hR : SlR w a n (sc ss)) :
    Calls Try.prog 22 #[.agg #[.int .i64 d, .int .i64 f, .slice a n c]] w (GetLB (twoR d f n ss F k) (cardOkB d f ss) w) := by
  have hbx : Row (w.alloc (.cells #[.int .i64 d, .int .i64 f, .slice a n c] 26 (0, 0))) w.heap.size 3 (fun j => #[Value.int .i64 d, .int .i64 f, .slice a n c].getD j undef) := Row.of_new w _ _
  have sz1 : (w.alloc (.cells #[.int .i64 d, .int .i64 f, .slice a n c] 26 (0, 0))).heap.size = w.heap.size + 1 := by simp
  have O1 : Own1 ((w.alloc (.cells #[.int .i64 d, .int .i64 f, .slice a n c] 26 (0, 0))).alloc (.cells #[] 3 (0, 0))) (w.heap.size + 1) 3 (w.heap.size + 1) 0 0 [] := by
    have := (Own1.empty (w.alloc (.cells #[.int .i64 d, .int .i64 f, .slice a n c] 26 (0, 0))) 3)
    rw [sz1] at this
    exact this
  have sz2 : ((w.alloc (.cells #[.int .i64 d, .int .i64 f, .slice a n c] 26 (0, 0))).alloc (.cells #[] 3 (0, 0))).heap.size = w.heap.size + 2 := by simp
  have hbz := (Below.box w (.cells #[.int .i64 d, .int .i64 f, .slice a n c] 26 (0, 0))).alloc (o := .cells #[] 3 (0, 0)) (by simp)
  have hbx2 := hbx.alloc (.cells #[] 3 (0, 0))
  have b0 := hbx2.cell (i := 0) (by omega)
  have b1 := hbx2.cell (i := 1) (by omega)
  have b2 := hbx2.cell (i := 2) (by omega)
  have HO1 := Lib.hid O1
  have HBX := Lib.hid hbx2
  have HBZ := Lib.hid hbz
  have HR := Lib.hid hR
  have HF := Lib.hid hF
  have HL := Lib.hid hl
  clear O1 hbx hbx2 hbz hR hF hl
  go_enter Try.func22, Try.ntmps22
  go_wp2_with fail
  clear sz1
  generalize (w.alloc (.cells #[.int .i64 d, .int .i64 f, .slice a n c] 26 (0, 0))).alloc (.cells #[] 3 (0, 0)) = W at *
  have HR0 : Hid (SlR W a n (sc ss)) := Lib.hid (HR.out.below HBZ.out)
  generalize hbb : w.heap.size = b at *
  have HBB := Lib.hid hbb
  clear hbb
  cases ho : cardOkB d f ss
  · have HV : Hid (twoR d f n ss F k = []) := Lib.hid (by unfold twoR; rw [ho]; rfl)
    have HO := Lib.hid ho
    clear ho
    go_wp2_with (go_at_call 47; refine (sCardOk_any _ _ _ _ _ _ _ HL.out hm HR0.out).mono ?_; rw [HO.out]; rintro e w1 ⟨rfl, hb1⟩; have HB1 := Lib.hid hb1; clear hb1)
    go_ret2
    unfold GetLB
    rw [HV.out, HBB.out]
    exact ⟨some ⟨b + 1, 0, none⟩, 0, by rw [HO.out]; rfl, .inl rfl, .inl rfl, HBZ.out.trans (HB1.out.mono (by omega))⟩
  · obtain ⟨N, hC, hFc, h160⟩ := HF.out.yes ho HL.out hm
    have hk160 : k ≤ 160 := Nat.le_trans hFc.le h160
    obtain ⟨T, hT⟩ : ∃ T, touchR d f n ss F k = T := ⟨_, rfl⟩
    have HV : Hid (twoR d f n ss F k = two (pAt T 0) (pAt T 1) T.length k k) := Lib.hid (by unfold twoR; rw [if_pos ho, hT])
    have HROW : Hid (∀ j, j < T.length → ∃ p q : Nat, rowN T j = [(p : Int), (q : Int)] ∧ p < k ∧ q < k) := Lib.hid (fun j hj => by
      rw [← hT] at hj ⊢
      exact touch_row hj)
    have hroom : T.length ≤ 25600 := by rw [← hT]; exact touch_len hk160
    have HPQ : Hid (∀ j, j < T.length → pAt T 0 j < k ∧ pAt T 1 j < k) := Lib.hid (fun j hj => by
      obtain ⟨p, q, h1, h2, h3⟩ := HROW.out j hj
      unfold pAt
      rw [h1]
      exact ⟨h2, h3⟩)
    have HTL := Lib.hid hT
    have HO := Lib.hid ho
    clear ho hC hFc hT
    go_wp2_with (go_at_call 47; refine (sCardOk_any _ _ _ _ _ _ _ HL.out hm HR0.out).mono ?_; rw [HO.out]; rintro e w1 ⟨rfl, hb1⟩; have HR1 := Lib.hid (HR0.out.below hb1); have HB1 := Lib.hid hb1; have hsz1 := hb1.size; clear b0 b1 b2; have hbx1 := HBX.out.below hb1 HBX.out.lt; have b0 := hbx1.cell (i := 0) (by omega); have b1 := hbx1.cell (i := 1) (by omega); have b2 := hbx1.cell (i := 2) (by omega); have HBX1 := Lib.hid hbx1; clear hb1 hbx1)
    go_wp2_with (go_at_call 14; refine (sCountFaces_any d f _ n _ ss F k _ HF.out HL.out hm HR1.out).mono ?_; rintro e w2 ⟨rfl, hb2⟩; have HB2 := Lib.hid (HB1.out.trans (hb2.mono hsz1)); have hsz2 := hb2.size; have HBX2 := Lib.hid (HBX1.out.below hb2 HBX1.out.lt); clear b0 b1 b2 hb2)
    have HO2 := Lib.hid (HO1.out.below HB2.out)
    have HB3 : Hid (Below b w w2) := Lib.hid (HBZ.out.trans (HB2.out.mono (by omega)))
    clear HR1 HB1 HB2 HO1 HBX HBX1 HBZ HR0
    go_loopw [4, 6] (fun v x wo => ∃ (t g cp : Nat), t ≤ k ∧ x = .int .i64 t ∧ v = .slice (some ⟨g, 0, none⟩) t cp ∧ Own1 wo (b + 1) 3 g t cp ((List.replicate t (-1 : Int)).map (Value.int .i64)) ∧ Row wo b 3 (fun j => #[Value.int .i64 d, .int .i64 f, .slice a n c].getD j undef) ∧ Below b w wo) (fun _ x _ => k - (intOf x).toNat)
    case atStart => exact ⟨0, b + 1, 0, Nat.zero_le _, rfl, rfl, HO2.out, HBX2.out, HB3.out⟩
    case round =>
      obtain ⟨t, g, cp, ht, rfl, rfl, h1, h2, h3⟩ := hrel
      rename World => wo
      have H1 := Lib.hid h1
      have H2 := Lib.hid h2
      have H3 := Lib.hid h3
      have hgl := h1.lt
      clear h1 h2 h3
      by_cases hlt : t < k
      · have HREP : Hid ((List.replicate (t + 1) (-1 : Int)).map (Value.int .i64) = (List.replicate t (-1 : Int)).map (Value.int .i64) ++ [.int .i64 (-1)]) := Lib.hid (by rw [List.replicate_succ', List.map_append]; rfl)
        go_wp2_with (at_builtin; refine append_one rfl _ _ 28 rfl Try.underlying28 infoIntW rfl (by omega) rfl (H1.out.alloc _) (by omega) rfl (new_cell (by simp)) rfl ?_; intro g' c' w5 o5 oo5 l5; have O5 := Lib.hid o5; have OO5 := Lib.hid oo5; clear o5 oo5 l5)
        go_roundw
        case rel =>
          have hbo := H3.out.size
          have hA := Below.box wo (.cells #[.int .i64 (-1)] 3 (0, 0))
          refine ⟨t + 1, g', c', by omega, by go_num, rfl, by rw [HREP.out]; exact O5.out, OO5.out.row (H2.out.alloc _) (by omega), H3.out.trans ((hA.mono (by omega)).trans (OO5.out.toBelow (by omega) (by simp; omega)))⟩
        case measure => simp [intOf]; omega
      · have ht' : k = t := by omega
        subst ht'
        have b0 := H2.out.cell (i := 0) (by omega)
        have b1 := H2.out.cell (i := 1) (by omega)
        have b2 := H2.out.cell (i := 2) (by omega)
        have HRo : Hid (SlR wo a n (sc ss)) := Lib.hid (HR.out.below (by rw [HBB.out]; exact H3.out))
        go_wp2_with (go_at_call 29; refine (sTouchingFaces_any d f _ n _ ss F k _ HF.out HL.out hm HRo.out).mono ?_; rw [HTL.out]; rintro e w3 ⟨aT, cT, rfl, hgl3, hb3⟩; have HG3 := Lib.hid hgl3; have HB4 := Lib.hid hb3; clear hgl3 hb3 b0 b1 b2)
        have hbo := H3.out.size
        have HB5 : Hid (Below b w w3) := Lib.hid (H3.out.trans (HB4.out.mono (by omega)))
        have HO5 : Hid (Own1 w3 (b + 1) 3 g k cp ((two (pAt T 0) (pAt T 1) T.length k 0).map (Value.int .i64))) := Lib.hid (H1.out.below HB4.out)
        have HGT : Hid (GL w3 wo.heap.size w3.heap.size aT T) := HG3
        have hsz3 := HB4.out.size
        generalize hlo : wo.heap.size = lo at *
        have HLO := Lib.hid hlo
        clear hlo H1 H2 H3 HB4 HG3 HRo HR HF HTL HBX2 HB3 HO2
        have HTN : Hid (T.length = T.length) := Lib.hid rfl
        go_loopw [8] (fun x wx => ∃ q : Nat, q ≤ k ∧ x = .int .i64 q ∧ Own1 wx (b + 1) 3 g k cp ((two (pAt T 0) (pAt T 1) T.length k q).map (Value.int .i64)) ∧ OnlyB g w3 wx) (fun x _ => k - (intOf x).toNat)
        case atStart => exact ⟨0, Nat.zero_le _, rfl, HO5.out, OnlyB.refl _ _⟩
        case round =>
          obtain ⟨q, hq, rfl, h1, h2⟩ := hrel
          rename World => wx
          have H1 := Lib.hid h1
          have H2 := Lib.hid h2
          clear h1 h2
          have hlen := two_len (pAt T 0) (pAt T 1) T.length k q
          have hok := two_ok (p := pAt T 0) (q := pAt T 1) (n := T.length) (m := k) HPQ.out q hq
          have HSTEP : Hid (two (pAt T 0) (pAt T 1) T.length k (q + 1) = if 0 ≤ (two (pAt T 0) (pAt T 1) T.length k q).getD q 0 then two (pAt T 0) (pAt T 1) T.length k q else itr (pAt T 0) (pAt T 1) T.length ((two (pAt T 0) (pAt T 1) T.length k q).set q 0) k) := Lib.hid rfl
          by_cases hlq : q < k
          · generalize two (pAt T 0) (pAt T 1) T.length k q = o at *
            have cq := own_cell H1.out hlq
            have fq := H1.out.frozen q
            by_cases hc : 0 ≤ o.getD q 0
            · have ec : decide (o.getD q 0 ≥ 0) = true := decide_eq_true hc
              have HNX : Hid (two (pAt T 0) (pAt T 1) T.length k (q + 1) = o) := Lib.hid (by rw [HSTEP.out, if_pos hc])
              clear hlen hok
              generalize o.getD q 0 = y at *
              go_wp2
              go_roundw
              case rel => exact ⟨q + 1, by omega, by go_num, by rw [HNX.out]; exact H1.out, H2.out⟩
              case measure => simp [intOf]; omega
            · have ec : decide (o.getD q 0 ≥ 0) = false := decide_eq_false hc
              have HNX : Hid (two (pAt T 0) (pAt T 1) T.length k (q + 1) = itr (pAt T 0) (pAt T 1) T.length (o.set q 0) k) := Lib.hid (by rw [HSTEP.out, if_neg hc])
              have HS0 : Hid (Own1 (wx.setCell ⟨g, q, none⟩ (.int .i64 0)) (b + 1) 3 g k cp ((itr (pAt T 0) (pAt T 1) T.length (o.set q 0) 0).map (Value.int .i64))) := Lib.hid (own_set H1.out q 0)
              have HS1 := Lib.hid (H2.out.set q (.int .i64 0))
              have HL0 : Hid ((o.set q 0).length = k) := Lib.hid (by rw [set_len]; exact hlen)
              have HOK0 : Hid (okc (o.set q 0)) := Lib.hid (okc_set hok (by omega) (by omega) (by omega))
              generalize o.set q 0 = o2 at *
              clear hlen hok
              generalize o.getD q 0 = y at *
              have hcy : ¬ (0 : Int) ≤ y := hc
              have hcy2 : y < 0 := by omega
              go_wp2
              go_loopw [9] (fun x wy => ∃ r : Nat, r ≤ k ∧ x = .int .i64 r ∧ Own1 wy (b + 1) 3 g k cp ((itr (pAt T 0) (pAt T 1) T.length o2 r).map (Value.int .i64)) ∧ OnlyB g w3 wy) (fun x _ => k - (intOf x).toNat)
              case atStart => exact ⟨0, Nat.zero_le _, rfl, HS0.out, HS1.out⟩
              case round =>
                obtain ⟨r, hr, rfl, h1, h2⟩ := hrel
                rename World => wy
                clear H1 H2 HS0 HS1 cq fq hcy hcy2 ec hc
                have H1 := Lib.hid h1
                have H2 := Lib.hid h2
                clear h1 h2
                by_cases hlr : r < k
                · have HIT : Hid (itr (pAt T 0) (pAt T 1) T.length o2 (r + 1) = swp (pAt T 0) (pAt T 1) (itr (pAt T 0) (pAt T 1) T.length o2 r) T.length) := Lib.hid rfl
                  have HLI : Hid ((itr (pAt T 0) (pAt T 1) T.length o2 r).length = k) := Lib.hid (by rw [itr_len]; exact HL0.out)
                  have HOI : Hid (okc (itr (pAt T 0) (pAt T 1) T.length o2 r)) := Lib.hid (itr_ok HOK0.out (fun j hj => by rw [HL0.out]; exact HPQ.out j hj) r)
                  generalize itr (pAt T 0) (pAt T 1) T.length o2 r = o3 at *
                  go_wp2
                  go_loopw [10] (fun x wz => ∃ j : Nat, j ≤ T.length ∧ x = .int .i64 j ∧ Own1 wz (b + 1) 3 g k cp ((swp (pAt T 0) (pAt T 1) o3 j).map (Value.int .i64)) ∧ OnlyB g w3 wz) (fun x _ => T.length - (intOf x).toNat)
                  case atStart => exact ⟨0, Nat.zero_le _, rfl, H1.out, H2.out⟩
                  case round =>
                    obtain ⟨j, hj, rfl, h1, h2⟩ := hrel
                    rename World => wz
                    clear H1 H2
                    have H1 := Lib.hid h1
                    have H2 := Lib.hid h2
                    have hgl4 := h1.lt
                    clear h1 h2
                    by_cases hlj : j < T.length
                    · obtain ⟨p, q', hrow, hp, hq'⟩ := HROW.out j hlj
                      rcases HGT.out with hgl | ⟨gt, rfl, hgl⟩
                      · rw [hgl] at hlj
                        exact absurd hlj (Nat.not_lt_zero j)
                      · have hgz := hgl.blocks (w' := wz) (fun x hx1 hx2 hx3 => H2.out.block x hx1 (by omega))
                        obtain ⟨bb, c0, c1, c2⟩ := hgz.pair hlj hrow
                        have HSW : Hid (swp (pAt T 0) (pAt T 1) o3 (j + 1) = stp (swp (pAt T 0) (pAt T 1) o3 j) p q') := Lib.hid (by
                          show stp _ _ _ = _
                          unfold pAt
                          rw [hrow]
                          rfl)
                        have HOS : Hid (okc (swp (pAt T 0) (pAt T 1) o3 j)) := Lib.hid (swp_ok HOI.out (fun j hj => by rw [HLI.out]; exact HPQ.out j hj) j (Nat.le_of_lt hlj))
                        have HLS : Hid ((swp (pAt T 0) (pAt T 1) o3 j).length = k) := Lib.hid (by rw [swp_len]; exact HLI.out)
                        generalize swp (pAt T 0) (pAt T 1) o3 j = o4 at *
                        have cp' := own_cell H1.out hp
                        have cq' := own_cell H1.out hq'
                        have fp := H1.out.frozen p
                        have fq := H1.out.frozen q'
                        have hbp := HOS.out p (by rw [HLS.out]; exact hp)
                        have hbq := HOS.out q' (by rw [HLS.out]; exact hq')
                        have k0 : (0 : Int) ≤ (p : Int) := Int.natCast_nonneg _
                        have k1 : (p : Int) < (k : Int) := by omega
                        have k2 : (0 : Int) ≤ (q' : Int) := Int.natCast_nonneg _
                        have k3 : (q' : Int) < (k : Int) := by omega
                        have k4 : (0 : Int) ≤ (j : Int) := Int.natCast_nonneg _
                        have k5 : (j : Int) < (T.length : Int) := by omega
                        have HST : Hid (stp o4 p q' = if 0 ≤ o4.getD p 0 ∧ o4.getD q' 0 < 0 then o4.set q' (1 - o4.getD p 0) else if 0 ≤ o4.getD q' 0 ∧ o4.getD p 0 < 0 then o4.set p (1 - o4.getD q' 0) else o4) := Lib.hid rfl
                        have HSP : Hid (∀ v, Own1 (wz.setCell ⟨g, p, none⟩ (.int .i64 v)) (b + 1) 3 g k cp ((o4.set p v).map (Value.int .i64)) ∧ OnlyB g w3 (wz.setCell ⟨g, p, none⟩ (.int .i64 v))) := Lib.hid (fun v => ⟨own_set H1.out p v, H2.out.set p _⟩)
                        have HSQ : Hid (∀ v, Own1 (wz.setCell ⟨g, q', none⟩ (.int .i64 v)) (b + 1) 3 g k cp ((o4.set q' v).map (Value.int .i64)) ∧ OnlyB g w3 (wz.setCell ⟨g, q', none⟩ (.int .i64 v))) := Lib.hid (fun v => ⟨own_set H1.out q' v, H2.out.set q' _⟩)
                        clear hrow hgl hgz
                        generalize hx : o4.getD p 0 = x at *
                        generalize hy : o4.getD q' 0 = y at *
                        have HXP := Lib.hid hx
                        have HXQ := Lib.hid hy
                        clear hx hy
                        by_cases hx0 : 0 ≤ x
                        · by_cases hy0 : y < 0
                          · have hne : p ≠ q' := fun e => by have h1 := HXP.out; have h2 := HXQ.out; rw [e] at h1; omega
                            have hne2 : q' ≠ p := fun e => hne e.symm
                            have g1 : decide (x ≥ 0) = true := decide_eq_true hx0
                            have g2 : decide (y < 0) = true := decide_eq_true hy0
                            have e1 : IntKind.i64.wrap (1 - x) = 1 - x := IntWalk.i64_in _ (by omega)
                            have g3 : decide (1 - x ≥ 0) = true := decide_eq_true (by omega)
                            have g4 : decide (x < 0) = false := decide_eq_false (by omega)
                            have HE : Hid (stp o4 p q' = o4.set q' (1 - x)) := Lib.hid (by rw [HST.out, if_pos ⟨hx0, hy0⟩])
                            go_wp2
                            go_roundw
                            case rel => exact ⟨j + 1, by omega, by go_num, by rw [HSW.out, HE.out]; exact (HSQ.out _).1, (HSQ.out _).2⟩
                            case measure => simp [intOf]; omega
                          · have g1 : decide (x ≥ 0) = true := decide_eq_true hx0
                            have g2 : decide (y < 0) = false := decide_eq_false hy0
                            have g3 : decide (y ≥ 0) = true := decide_eq_true (by omega)
                            have g4 : decide (x < 0) = false := decide_eq_false (by omega)
                            have HE : Hid (stp o4 p q' = o4) := Lib.hid (by rw [HST.out, if_neg (by omega), if_neg (by omega)])
                            go_wp2
                            go_roundw
                            case rel => exact ⟨j + 1, by omega, by go_num, by rw [HSW.out, HE.out]; exact H1.out, H2.out⟩
                            case measure => simp [intOf]; omega
                        · by_cases hy0 : y < 0
                          · have g1 : decide (x ≥ 0) = false := decide_eq_false hx0
                            have g3 : decide (y ≥ 0) = false := decide_eq_false (by omega)
                            have HE : Hid (stp o4 p q' = o4) := Lib.hid (by rw [HST.out, if_neg (by omega), if_neg (by omega)])
                            go_wp2
                            go_roundw
                            case rel => exact ⟨j + 1, by omega, by go_num, by rw [HSW.out, HE.out]; exact H1.out, H2.out⟩
                            case measure => simp [intOf]; omega
                          · have g1 : decide (x ≥ 0) = false := decide_eq_false hx0
                            have g3 : decide (y ≥ 0) = true := decide_eq_true (by omega)
                            have g4 : decide (x < 0) = true := decide_eq_true (by omega)
                            have e1 : IntKind.i64.wrap (1 - y) = 1 - y := IntWalk.i64_in _ (by omega)
                            have HE : Hid (stp o4 p q' = o4.set p (1 - y)) := Lib.hid (by rw [HST.out, if_neg (by omega), if_pos (by omega)])
                            go_wp2
                            go_roundw
                            case rel => exact ⟨j + 1, by omega, by go_num, by rw [HSW.out, HE.out]; exact (HSP.out _).1, (HSP.out _).2⟩
                            case measure => simp [intOf]; omega
                    · have hj' : j = T.length := by omega
                      subst hj'
                      go_wp2
                      go_roundw
                      case rel => exact ⟨r + 1, by omega, by go_num, by rw [HIT.out]; exact H1.out, H2.out⟩
                      case measure => simp [intOf]; omega
                · have hr' : k = r := by omega
                  subst hr'
                  go_wp2
                  go_roundw
                  case rel => exact ⟨q + 1, by omega, by go_num, by rw [HNX.out]; exact H1.out, H2.out⟩
                  case measure => simp [intOf]; omega
          · have hq' : k = q := by omega
            subst hq'
            have hgl5 := H1.out.lt
            have hbo' : b ≤ w3.heap.size := by omega
            go_wp2
            go_ret2
            unfold GetLB
            rw [HV.out, two_len, HBB.out]
            refine ⟨some ⟨g, 0, none⟩, cp, by rw [HO.out]; rfl, H1.out.sl, Fresh.of (by omega), HB5.out.trans (H2.out.toBelow (by omega) hbo')⟩
end Go.Proofs.Yteojoifhmaoiaaa
