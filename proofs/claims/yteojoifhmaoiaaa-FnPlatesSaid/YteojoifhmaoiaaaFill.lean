/-
  Contract of fill: a fill in depth of the tiles that belong together.
  By an AI agent.
-/
import Derived.Test.YteojoifhmaoiaaaTilJ
import Derived.Deep.RegionLaw
import Derived.Deep.DeepCutAuto
namespace Go.Proofs.Yteojoifhmaoiaaa
open Go.ChangeShapes Go.WideShapes Go.ChangeAt Go.RowKit Go.Joins Go.Deep
set_option maxRecDepth 100000
set_option linter.unusedVariables false

def FillP (ss : List ByteArray) (lo hi go n N : Nat) (A : Nat → Nat) (fc : Nat) (F : Nat → Int) (t : Nat) (w : World) (e : Ending) (w' : World) : Prop :=
  ∃ (T : Nat → Int) (r : Nat), e = .returned (.int .i64 r) ∧ Fill (TE ss N (n * N)) F t fc T ∧ un (n * N) F = un (n * N) T + r ∧ Grid w' lo hi go n N A T ∧ Reg lo hi w w'
def fillArgs (d f : Int) (a : Option Addr) (n c go cp : Nat) (k i : Nat) (fc : Nat) : Array Value := #[.agg #[.int .i64 d, .int .i64 f, .slice a n c], .slice (some ⟨go, 0, none⟩) n cp, .int .i64 k, .int .i64 i, .int .i64 fc]
def nbv (k i q : Nat) : Value := if q % 2 = 0 then .int .i64 (nbR k (q / 2)) else .int .i64 (nbC i (q / 2))
theorem nb_new (w : World) (k i : Nat) (e : TypeId) : Row (w.alloc (.cells #[.int .i64 (k : Int), .int .i64 ((i : Int) - 1), .int .i64 (k : Int), .int .i64 ((i : Int) + 1), .int .i64 ((k : Int) - 1), .int .i64 (i : Int), .int .i64 ((k : Int) + 1), .int .i64 (i : Int)] e (0, 0))) w.heap.size 8 (nbv k i) := by
  refine (Row.of_new w _ e).congr fun q hq => ?_
  simp only [List.size_toArray, List.length_cons, List.length_nil] at hq
  have : q = 0 ∨ q = 1 ∨ q = 2 ∨ q = 3 ∨ q = 4 ∨ q = 5 ∨ q = 6 ∨ q = 7 := by omega
  rcases this with rfl | rfl | rfl | rfl | rfl | rfl | rfl | rfl <;> simp [nbv, nbR, nbC]
set_option maxHeartbeats 16000000 in
theorem fill_step (d f : Int) (a : Option Addr) (n c N : Nat) (ss : List ByteArray) (W0 : World) (lo hi go cp : Nat) (A : Nat → Nat) (fc : Nat) (hC : Cd d f n N ss) (hR0 : SlR W0 a n (sc ss)) (hlo : W0.heap.size ≤ lo) (F : Nat → Int) (hfc : fc ≤ 1000000)
    (ih : ∀ (T : Nat → Int) (k i : Nat) (w : World), un (n * N) T < un (n * N) F → k < n → i < N → T (k * N + i) < 0 → Below W0.heap.size W0 w → hi ≤ w.heap.size → Grid w lo hi go n N A T → Calls Try.prog 64 (fillArgs d f a n c go cp k i fc) w (FillP ss lo hi go n N A fc T (k * N + i) w))
    (k i : Nat) (w : World) (hk : k < n) (hi' : i < N) (hF : F (k * N + i) < 0) (hB : Below W0.heap.size W0 w) (hhi : hi ≤ w.heap.size) (hG : Grid w lo hi go n N A F) :
    Calls Try.prog 64 (fillArgs d f a n c go cp k i fc) w (FillP ss lo hi go n N A fc F (k * N + i) w) := by
  have hb := hC.bds
  have hn := hb.2.2.1
  have hN := hb.2.2.2
  have HI := Lib.hid ih
  have HC := Lib.hid hC
  have HR0 := Lib.hid hR0
  have HB := Lib.hid hB
  have HG := Lib.hid hG
  have HF := Lib.hid hF
  have htl : k * N + i < n * N := tile_lt hk hi'
  have HTL := Lib.hid htl
  have hun := un_put (m := n * N) (F := F) (fc := (fc : Int)) htl (by omega) hF
  have HUN := Lib.hid hun
  clear ih hC hR0 hB hG hF hb hun
  have hAk := HG.out.own k hk
  unfold fillArgs
  -- the card's box
  have HB0 := Lib.hid (Below.box w (.cells #[.int .i64 d, .int .i64 f, .slice a n c] 26 (0, 0)))
  have hbx : Row (w.alloc (.cells #[.int .i64 d, .int .i64 f, .slice a n c] 26 (0, 0))) w.heap.size 3 (fun j => #[Value.int .i64 d, .int .i64 f, .slice a n c].getD j undef) := Row.of_new w _ _
  have HBX := Lib.hid hbx
  clear hbx
  have hsz : (w.alloc (.cells #[.int .i64 d, .int .i64 f, .slice a n c] 26 (0, 0))).heap.size = w.heap.size + 1 := by simp
  have HG0 := Lib.hid (HG.out.below HB0.out)
  have HG1 := Lib.hid (HG0.out.set hk hi' (fc : Int))
  have HRG1 := Lib.hid ((Reg.ofBelow HB0.out : Reg lo hi w _).trans (HG0.out.reg hk i (.int .i64 (fc : Int))))
  have HBX1 := Lib.hid (HBX.out.set_other (p := ⟨A k, i, none⟩) (by show w.heap.size ≠ A k; omega) (.int .i64 (fc : Int)))
  have e1 : IntKind.i64.wrap ((i : Int) - 1) = (i : Int) - 1 := IntWalk.i64_in _ (by omega)
  have e2 : IntKind.i64.wrap ((i : Int) + 1) = (i : Int) + 1 := IntWalk.i64_in _ (by omega)
  have e3 : IntKind.i64.wrap ((k : Int) - 1) = (k : Int) - 1 := IntWalk.i64_in _ (by omega)
  have e4 : IntKind.i64.wrap ((k : Int) + 1) = (k : Int) + 1 := IntWalk.i64_in _ (by omega)
  have c1 := HG0.out.head.cell hk
  unfold ghead at c1
  have f1 := (HG0.out.row k hk).frozen i
  have c2 := (HG0.out.row k hk).cell hi'
  unfold gcell at c2
  have i0 : (0 : Int) ≤ (k : Int) := Int.natCast_nonneg _
  have i1 : (k : Int) < (n : Int) := by omega
  have i2 : (0 : Int) ≤ (i : Int) := Int.natCast_nonneg _
  have i3 : (i : Int) < (N : Int) := by omega
  go_enter Try.func64, Try.ntmps64
  go_upto_region 2 with (fail)
  have HR1 := Lib.hid (HR0.out.below (HB.out.trans (HRG1.out.below hlo (by have := HB.out.size; omega))))
  have hsz1 : ((w.alloc (.cells #[.int .i64 d, .int .i64 f, .slice a n c] 26 (0, 0))).setCell ⟨A k, i, none⟩ (.int .i64 (fc : Int))).heap.size = w.heap.size + 1 := by simp
  clear c1 c2 f1 HG0 HBX hsz HB0
  generalize (w.alloc (.cells #[.int .i64 d, .int .i64 f, .slice a n c] 26 (0, 0))).setCell ⟨A k, i, none⟩ (.int .i64 (fc : Int)) = W1 at *
  obtain ⟨ga, rfl, hr1⟩ := HR1.out.row (by omega)
  have c3 := hr1.cell hk
  unfold sc at c3
  have hss := HC.out.size hk
  have HSZ := Lib.hid hss
  unfold rowS at hss
  generalize hS : ss.getD k ByteArray.empty = S at c3 hss
  have HSE := Lib.hid hS
  clear hS hr1
  have b2 : W1.cell? ⟨w.heap.size, 2, none⟩ = some (.slice (some ⟨ga, 0, none⟩) n c) := HBX1.out.cell (i := 2) (by omega)
  go_quiet (fail)
  clear c3 b2
  go_wp2
  have HD : Hid (Below W1.heap.size W1 ((W1.drewN nq).alloc (.cells #[.int .i64 (k : Int), .int .i64 ((i : Int) - 1), .int .i64 (k : Int), .int .i64 ((i : Int) + 1), .int .i64 ((k : Int) - 1), .int .i64 (i : Int), .int .i64 ((k : Int) + 1), .int .i64 (i : Int)] 87 (0, 0)))) := Lib.hid ((below_drewN (Below.refl _ W1) nq).alloc (Nat.le_refl _) _)
  have hnb := nb_new (W1.drewN nq) k i 87
  rw [show (W1.drewN nq).heap.size = w.heap.size + 1 from hsz1] at hnb
  have HNB := Lib.hid hnb
  have HG2 := Lib.hid (HG1.out.below HD.out)
  have HBX2 := Lib.hid (HBX1.out.below HD.out HBX1.out.lt)
  have HRG2 := Lib.hid (HRG1.out.trans (Reg.ofBelow HD.out))
  have hm160 : n * N ≤ 160 := Nat.mul_le_mul hn hN.2
  have hunF : un (n * N) F ≤ n * N := cntB_le _ _
  clear hnb HD HG1 HBX1 HRG1 HR1 hsz1
  generalize (W1.drewN nq).alloc (.cells #[.int .i64 (k : Int), .int .i64 ((i : Int) - 1), .int .i64 (k : Int), .int .i64 ((i : Int) + 1), .int .i64 ((k : Int) - 1), .int .i64 (i : Int), .int .i64 ((k : Int) + 1), .int .i64 (i : Int)] 87 (0, 0)) = W2 at *
  go_loopw [11, 47] (fun x y wr => ∃ (q r : Nat) (T : Nat → Int), q ≤ 4 ∧ x = .int .i64 r ∧ y = .int .i64 q ∧ FillIn (TE ss N (n * N)) F (k * N + i) fc (nbQ n N k i q) T ∧ un (n * N) F = un (n * N) T + r ∧ Grid wr lo hi go n N A T ∧ Reg lo hi w wr ∧ Row wr w.heap.size 3 (fun j => #[Value.int .i64 d, .int .i64 f, .slice (some ⟨ga, 0, none⟩) n c].getD j undef) ∧ Row wr (w.heap.size + 1) 8 (nbv k i)) (fun _ y _ => 4 - (intOf y).toNat)
  case atStart => exact ⟨0, 1, _, by omega, rfl, rfl, (FillIn.start (by omega) HF.out).weaken (fun z hz => absurd hz nbQ_zero), HUN.out, HG2.out, HRG2.out, HBX2.out, HNB.out⟩
  case round =>
    obtain ⟨q, r, T, hq, rfl, rfl, hfi, hu, hg, hrg, hbx, hnb⟩ := hrel
    have HFI := Lib.hid hfi
    have HU := Lib.hid hu
    have HGr := Lib.hid hg
    have HRr := Lib.hid hrg
    have HBr := Lib.hid hbx
    have HNr := Lib.hid hnb
    clear hfi hu hg hrg hbx hnb HG2 HRG2 HBX2 HNB
    have hsw := HRr.out.size
    by_cases hlq : q < 4
    · have c4 := HNr.out.cell (i := q * 2) (by omega)
      have c5 := HNr.out.cell (i := q * 2 + 1) (by omega)
      have v4 : nbv k i (q * 2) = .int .i64 (nbR k q) := by unfold nbv; rw [if_pos (by omega), show q * 2 / 2 = q by omega]
      have v5 : nbv k i (q * 2 + 1) = .int .i64 (nbC i q) := by unfold nbv; rw [if_neg (by omega), show (q * 2 + 1) / 2 = q by omega]
      rw [v4] at c4
      rw [v5] at c5
      clear v4 v5
      generalize hX : nbR k q = X at *
      generalize hY : nbC i q = Y at *
      have HX := Lib.hid hX
      have HY := Lib.hid hY
      clear hX hY
      go_upto_region 6 with (fail)
      have HB3 := Lib.hid (Below.box wr (.cells #[.int .i64 X, .int .i64 Y] 87 (0, 0)))
      have d0 : (wr.alloc (.cells #[.int .i64 X, .int .i64 Y] 87 (0, 0))).cell? ⟨wr.heap.size, 0, none⟩ = some (.int .i64 X) := (Row.of_new wr _ _).cell (i := 0) (by simp)
      have d1 : (wr.alloc (.cells #[.int .i64 X, .int .i64 Y] 87 (0, 0))).cell? ⟨wr.heap.size, 1, none⟩ = some (.int .i64 Y) := (Row.of_new wr _ _).cell (i := 1) (by simp)
      have HG3 := Lib.hid (HGr.out.below HB3.out)
      have HRG3 := Lib.hid (HRr.out.trans (Reg.ofBelow HB3.out))
      have HBX3 := Lib.hid (HBr.out.below HB3.out HBr.out.lt)
      have HNB3 := Lib.hid (HNr.out.below HB3.out HNr.out.lt)
      clear HGr HRr HBr HNr HB3 c4 c5
      generalize hW3 : wr.alloc (.cells #[.int .i64 X, .int .i64 Y] 87 (0, 0)) = W3 at *
      clear hW3
      have HBB := Lib.hid (HB.out.trans (HRG3.out.below hlo (by have := HB.out.size; omega)))
      have HS3 := Lib.hid (HR0.out.below HBB.out)
      go_quiet (fail)
      clear d0 d1
      have b0 : W3.cell? ⟨w.heap.size, 0, none⟩ = some (.int .i64 d) := HBX3.out.cell (i := 0) (by omega)
      have b1 : W3.cell? ⟨w.heap.size, 1, none⟩ = some (.int .i64 f) := HBX3.out.cell (i := 1) (by omega)
      have b2 : W3.cell? ⟨w.heap.size, 2, none⟩ = some (.slice (some ⟨ga, 0, none⟩) n c) := HBX3.out.cell (i := 2) (by omega)
      by_cases hin : (0 ≤ X ∧ X < (n : Int)) ∧ (0 ≤ Y ∧ Y < (N : Int))
      · have HV : Hid ((decide (0 ≤ X ∧ X < (n : Int)) && decide (0 ≤ Y ∧ Y < (N : Int))) = true) := Lib.hid (by rw [decide_eq_true hin.1, decide_eq_true hin.2]; rfl)
        obtain ⟨⟨x0, x1⟩, y0, y1⟩ := hin
        obtain ⟨m, rfl⟩ : ∃ m : Nat, X = (m : Int) := ⟨X.toNat, by omega⟩
        obtain ⟨j, rfl⟩ : ∃ j : Nat, Y = (j : Int) := ⟨Y.toNat, by omega⟩
        have hm : m < n := by omega
        have hj : j < N := by omega
        obtain ⟨v, hv⟩ : ∃ v, T (m * N + j) = v := ⟨_, rfl⟩
        have HTV := Lib.hid hv
        by_cases hv0 : v < 0
        · have hv' : ¬ v ≥ 0 := by omega
          have HTE : Hid (TE ss N (n * N) (k * N + i) (m * N + j) ↔ joinB ss k i m j = true) := Lib.hid (nb_joined hN.1 hk hi' hm hj hlq HX.out HY.out)
          have HUT : Hid (un (n * N) T < un (n * N) F) := Lib.hid (by
            have h1 := HU.out
            have h2 := HUN.out
            have h3 : un (n * N) T ≤ un (n * N) (fun x => if x = k * N + i then (fc : Int) else F x) := un_mono (fun x hx => by
              by_cases e : x = k * N + i
              · subst e; rw [HFI.out.self]; omega
              · rw [if_neg e] at hx
                rcases HFI.out.chg x with e2 | ⟨_, e2⟩ <;> rw [e2] <;> omega)
            omega)
          clear hv
          by_cases hmk : m = k
          · subst hmk
            have q1 : ((m : Int) == (m : Int)) = true := by simp
            have q1' : ((m : Int) != (m : Int)) = false := by simp
            have j1 : (0 : Int) ≤ (j : Int) := by omega
            have j2 : (j : Int) < (S.size : Int) := by omega
            have j3 : (i : Int) < (S.size : Int) := by omega
            have hjS : j < S.size := by omega
            have hiS : i < S.size := by omega
            by_cases hbb : S[j] = S[i]
            · have bb := byt_t hbb
              have HJ : Hid (joinB ss m i m j = true) := Lib.hid (by unfold joinB rowS; rw [if_pos rfl, HSE.out, bt_at hjS, bt_at hiS, hbb]; simp)
              clear hbb
              go_wp2_with (go_at_call 78; refine (hasTile_any d f _ n c N ss _ _ _ HC.out (HS3.out.below (below_drewN (Below.refl _ _) _))).mono ?_; rw [HV.out]; rintro e w4 ⟨rfl, hb4⟩; have HB4 : Hid (Below W3.heap.size W3 w4) := Lib.hid ((below_drewN (Below.refl _ W3) _).trans hb4); clear hb4; have HG4 := Lib.hid (HG3.out.below HB4.out); have HRG4 := Lib.hid (HRG3.out.trans (Reg.ofBelow HB4.out)); have HBX4 := Lib.hid (HBX3.out.below HB4.out HBX3.out.lt); have HNB4 := Lib.hid (HNB3.out.below HB4.out HNB3.out.lt); have c7 := HG4.out.head.cell hm; unfold ghead at c7; have c8 := (HG4.out.row m hm).cell hj; unfold gcell at c8; rw [HTV.out] at c8)
              go_quiet (fail)
              have b3 : w4.cell? ⟨w.heap.size, 0, none⟩ = some (.int .i64 d) := HBX4.out.cell (i := 0) (by omega)
              have b4 : w4.cell? ⟨w.heap.size, 1, none⟩ = some (.int .i64 f) := HBX4.out.cell (i := 1) (by omega)
              have b6 : w4.cell? ⟨w.heap.size, 2, none⟩ = some (.slice (some ⟨ga, 0, none⟩) n c) := HBX4.out.cell (i := 2) (by omega)
              have hs4 : hi ≤ w4.heap.size := by have := HRG4.out.size; omega
              have HBW : Hid (Below W0.heap.size W0 w4) := Lib.hid (HB.out.trans (HRG4.out.below hlo (by have := HB.out.size; omega)))
              go_wp2_with (go_at_call 64; refine (HI.out T m j _ HUT.out hm hj (by rw [HTV.out]; exact hv0) (below_drewN HBW.out _) hs4 (HG4.out.below (below_drewN (Below.refl _ _) _))).mono ?_; rintro e w5 ⟨T', r', rfl, hfl, hu', hg', hrg'⟩; have HFL := Lib.hid (HFI.out.next (fun z hz => nbQ_in HX.out HY.out hz) (HTE.out.2 HJ.out) hfl); have hrr : r + r' ≤ 160 := (by have h1 := HU.out; omega); have HU2 : Hid (un (n * N) F = un (n * N) T' + (r + r')) := Lib.hid (by have h1 := HU.out; omega); have HG5 := Lib.hid hg'; have HRG5 := Lib.hid ((HRG4.out.trans (Reg.ofBelow (below_drewN (Below.refl _ _) _))).trans hrg'); have HBX5 := Lib.hid (hrg'.row (show Row (w4.drewN _) w.heap.size 3 _ from HBX4.out.of_heap rfl) (.inr hhi)); have HNB5 := Lib.hid (hrg'.row (show Row (w4.drewN _) (w.heap.size + 1) 8 _ from HNB4.out.of_heap rfl) (.inr (by omega))); clear hfl hu' hg' hrg')
              go_roundw
              case rel => exact ⟨q + 1, r + r', T', by omega, by go_num, by go_num, HFL.out, HU2.out, HG5.out, HRG5.out, HBX5.out, HNB5.out⟩
              case measure => simp [intOf]; omega
            · have bb := byt_f hbb
              have HJ : Hid (joinB ss m i m j = false) := Lib.hid (by unfold joinB rowS; rw [if_pos rfl, HSE.out, bt_at hjS, bt_at hiS]; simp [hbb])
              clear hbb
              go_wp2_with (go_at_call 78; refine (hasTile_any d f _ n c N ss _ _ _ HC.out (HS3.out.below (below_drewN (Below.refl _ _) _))).mono ?_; rw [HV.out]; rintro e w4 ⟨rfl, hb4⟩; have HB4 : Hid (Below W3.heap.size W3 w4) := Lib.hid ((below_drewN (Below.refl _ W3) _).trans hb4); clear hb4; have HG4 := Lib.hid (HG3.out.below HB4.out); have HRG4 := Lib.hid (HRG3.out.trans (Reg.ofBelow HB4.out)); have HBX4 := Lib.hid (HBX3.out.below HB4.out HBX3.out.lt); have HNB4 := Lib.hid (HNB3.out.below HB4.out HNB3.out.lt); have c7 := HG4.out.head.cell hm; unfold ghead at c7; have c8 := (HG4.out.row m hm).cell hj; unfold gcell at c8; rw [HTV.out] at c8)
              go_quiet (fail)
              have HF1 : Hid (FillIn (TE ss N (n * N)) F (m * N + i) fc (nbQ n N m i (q + 1)) T) := Lib.hid (HFI.out.skip (fun z hz => nbQ_in HX.out HY.out hz) (fun he => by have h1 := HTE.out.1 he; rw [HJ.out] at h1; cases h1))
              go_wp2
              go_roundw
              case rel => exact ⟨q + 1, r, T, by omega, rfl, by go_num, HF1.out, HU.out, HG4.out.below (below_drewN (Below.refl _ _) _), HRG4.out.trans (Reg.ofBelow (below_drewN (Below.refl _ _) _)), HBX4.out.of_heap rfl, HNB4.out.of_heap rfl⟩
              case measure => simp [intOf]; omega
          · have q1 : ((m : Int) == (k : Int)) = false := by simp; omega
            have q1' : ((m : Int) != (k : Int)) = true := by simp; omega
            have j3 : (i : Int) < (S.size : Int) := by omega
            have hsz2 := HC.out.size hm
            unfold rowS at hsz2
            have HS2 := Lib.hid hsz2
            generalize hS2 : ss.getD m ByteArray.empty = S2 at hsz2
            have HS2E := Lib.hid hS2
            clear hS2 HS2
            cases hbb : sameSt S S2 i
            · have HJ : Hid (joinB ss k i m j = false) := Lib.hid (by unfold joinB rowS; rw [if_neg hmk, HSE.out, HS2E.out]; exact hbb)
              have HBB2 := Lib.hid hbb
              clear hbb
              go_wp2_with (go_at_call 78; refine (hasTile_any d f _ n c N ss _ _ _ HC.out (HS3.out.below (below_drewN (Below.refl _ _) _))).mono ?_; rw [HV.out]; rintro e w4 ⟨rfl, hb4⟩; have HB4 : Hid (Below W3.heap.size W3 w4) := Lib.hid ((below_drewN (Below.refl _ W3) _).trans hb4); clear hb4; have HG4 := Lib.hid (HG3.out.below HB4.out); have HRG4 := Lib.hid (HRG3.out.trans (Reg.ofBelow HB4.out)); have HBX4 := Lib.hid (HBX3.out.below HB4.out HBX3.out.lt); have HNB4 := Lib.hid (HNB3.out.below HB4.out HNB3.out.lt); have c7 := HG4.out.head.cell hm; unfold ghead at c7; have c8 := (HG4.out.row m hm).cell hj; unfold gcell at c8; rw [HTV.out] at c8; have HS4 := Lib.hid (HS3.out.below HB4.out); obtain ⟨ga', hga, hr4⟩ := HS4.out.row (by omega); simp only [Option.some.injEq, Addr.mk.injEq, and_true] at hga; subst hga; have c9 := hr4.cell hm; unfold sc at c9; rw [HS2E.out] at c9; have b5 : w4.cell? ⟨w.heap.size, 2, none⟩ = some (.slice (some ⟨ga, 0, none⟩) n c) := HBX4.out.cell (i := 2) (by omega))
              go_quiet ((go_at_call 79; exact quiet_more (isSameStep_is S S2 i _ HBB2.out (by omega) (by omega) (by omega) (by omega))))
              have HF1 : Hid (FillIn (TE ss N (n * N)) F (k * N + i) fc (nbQ n N k i (q + 1)) T) := Lib.hid (HFI.out.skip (fun z hz => nbQ_in HX.out HY.out hz) (fun he => by have h1 := HTE.out.1 he; rw [HJ.out] at h1; cases h1))
              go_wp2
              go_roundw
              case rel => exact ⟨q + 1, r, T, by omega, rfl, by go_num, HF1.out, HU.out, HG4.out.below (below_drewN (Below.refl _ _) _), HRG4.out.trans (Reg.ofBelow (below_drewN (Below.refl _ _) _)), HBX4.out.of_heap rfl, HNB4.out.of_heap rfl⟩
              case measure => simp [intOf]; omega
            · have HJ : Hid (joinB ss k i m j = true) := Lib.hid (by unfold joinB rowS; rw [if_neg hmk, HSE.out, HS2E.out]; exact hbb)
              have HBB2 := Lib.hid hbb
              clear hbb
              go_wp2_with (go_at_call 78; refine (hasTile_any d f _ n c N ss _ _ _ HC.out (HS3.out.below (below_drewN (Below.refl _ _) _))).mono ?_; rw [HV.out]; rintro e w4 ⟨rfl, hb4⟩; have HB4 : Hid (Below W3.heap.size W3 w4) := Lib.hid ((below_drewN (Below.refl _ W3) _).trans hb4); clear hb4; have HG4 := Lib.hid (HG3.out.below HB4.out); have HRG4 := Lib.hid (HRG3.out.trans (Reg.ofBelow HB4.out)); have HBX4 := Lib.hid (HBX3.out.below HB4.out HBX3.out.lt); have HNB4 := Lib.hid (HNB3.out.below HB4.out HNB3.out.lt); have c7 := HG4.out.head.cell hm; unfold ghead at c7; have c8 := (HG4.out.row m hm).cell hj; unfold gcell at c8; rw [HTV.out] at c8; have HS4 := Lib.hid (HS3.out.below HB4.out); obtain ⟨ga', hga, hr4⟩ := HS4.out.row (by omega); simp only [Option.some.injEq, Addr.mk.injEq, and_true] at hga; subst hga; have c9 := hr4.cell hm; unfold sc at c9; rw [HS2E.out] at c9; have b5 : w4.cell? ⟨w.heap.size, 2, none⟩ = some (.slice (some ⟨ga, 0, none⟩) n c) := HBX4.out.cell (i := 2) (by omega))
              go_quiet ((go_at_call 79; exact quiet_more (isSameStep_is S S2 i _ HBB2.out (by omega) (by omega) (by omega) (by omega))))
              have b3 : w4.cell? ⟨w.heap.size, 0, none⟩ = some (.int .i64 d) := HBX4.out.cell (i := 0) (by omega)
              have b4 : w4.cell? ⟨w.heap.size, 1, none⟩ = some (.int .i64 f) := HBX4.out.cell (i := 1) (by omega)
              have b6 : w4.cell? ⟨w.heap.size, 2, none⟩ = some (.slice (some ⟨ga, 0, none⟩) n c) := HBX4.out.cell (i := 2) (by omega)
              have hs4 : hi ≤ w4.heap.size := by have := HRG4.out.size; omega
              have HBW : Hid (Below W0.heap.size W0 w4) := Lib.hid (HB.out.trans (HRG4.out.below hlo (by have := HB.out.size; omega)))
              go_wp2_with (go_at_call 64; refine (HI.out T m j _ HUT.out hm hj (by rw [HTV.out]; exact hv0) (below_drewN HBW.out _) hs4 (HG4.out.below (below_drewN (Below.refl _ _) _))).mono ?_; rintro e w5 ⟨T', r', rfl, hfl, hu', hg', hrg'⟩; have HFL := Lib.hid (HFI.out.next (fun z hz => nbQ_in HX.out HY.out hz) (HTE.out.2 HJ.out) hfl); have hrr : r + r' ≤ 160 := (by have h1 := HU.out; omega); have HU2 : Hid (un (n * N) F = un (n * N) T' + (r + r')) := Lib.hid (by have h1 := HU.out; omega); have HG5 := Lib.hid hg'; have HRG5 := Lib.hid ((HRG4.out.trans (Reg.ofBelow (below_drewN (Below.refl _ _) _))).trans hrg'); have HBX5 := Lib.hid (hrg'.row (show Row (w4.drewN _) w.heap.size 3 _ from HBX4.out.of_heap rfl) (.inr hhi)); have HNB5 := Lib.hid (hrg'.row (show Row (w4.drewN _) (w.heap.size + 1) 8 _ from HNB4.out.of_heap rfl) (.inr (by omega))); clear hfl hu' hg' hrg')
              go_roundw
              case rel => exact ⟨q + 1, r + r', T', by omega, by go_num, by go_num, HFL.out, HU2.out, HG5.out, HRG5.out, HBX5.out, HNB5.out⟩
              case measure => simp [intOf]; omega
        · have hv' : v ≥ 0 := by omega
          have HF1 : Hid (FillIn (TE ss N (n * N)) F (k * N + i) fc (nbQ n N k i (q + 1)) T) := Lib.hid (HFI.out.skip (fun z hz => nbQ_in HX.out HY.out hz) (fun _ => by rw [hv]; omega))
          clear hv
          go_wp2_with (go_at_call 78; refine (hasTile_any d f _ n c N ss _ _ _ HC.out (HS3.out.below (below_drewN (Below.refl _ _) _))).mono ?_; rw [HV.out]; rintro e w4 ⟨rfl, hb4⟩; have HB4 : Hid (Below W3.heap.size W3 w4) := Lib.hid ((below_drewN (Below.refl _ W3) _).trans hb4); clear hb4; have HG4 := Lib.hid (HG3.out.below HB4.out); have HRG4 := Lib.hid (HRG3.out.trans (Reg.ofBelow HB4.out)); have HBX4 := Lib.hid (HBX3.out.below HB4.out HBX3.out.lt); have HNB4 := Lib.hid (HNB3.out.below HB4.out HNB3.out.lt); have c7 := HG4.out.head.cell hm; unfold ghead at c7; have c8 := (HG4.out.row m hm).cell hj; unfold gcell at c8; rw [HTV.out] at c8)
          go_roundw
          case rel => exact ⟨q + 1, r, T, by omega, rfl, by go_num, HF1.out, HU.out, HG4.out, HRG4.out, HBX4.out, HNB4.out⟩
          case measure => simp [intOf]; omega
      · have HV : Hid ((decide (0 ≤ X ∧ X < (n : Int)) && decide (0 ≤ Y ∧ Y < (N : Int))) = false) := Lib.hid (by
          by_cases h1 : 0 ≤ X ∧ X < (n : Int)
          · rw [decide_eq_false (fun h2 => hin ⟨h1, h2⟩), Bool.and_false]
          · rw [decide_eq_false h1, Bool.false_and])
        have HF1 : Hid (FillIn (TE ss N (n * N)) F (k * N + i) fc (nbQ n N k i (q + 1)) T) := Lib.hid (HFI.out.weaken (fun z hz => nbQ_out (by rw [HX.out, HY.out]; exact hin) hz))
        clear hin
        go_wp2_with (go_at_call 78; refine (hasTile_any d f _ n c N ss _ _ _ HC.out (HS3.out.below (below_drewN (Below.refl _ _) _))).mono ?_; rw [HV.out]; rintro e w4 ⟨rfl, hb4⟩; have HB4 : Hid (Below W3.heap.size W3 w4) := Lib.hid ((below_drewN (Below.refl _ W3) _).trans hb4); clear hb4; have HG4 := Lib.hid (HG3.out.below HB4.out); have HRG4 := Lib.hid (HRG3.out.trans (Reg.ofBelow HB4.out)); have HBX4 := Lib.hid (HBX3.out.below HB4.out HBX3.out.lt); have HNB4 := Lib.hid (HNB3.out.below HB4.out HNB3.out.lt))
        go_roundw
        case rel => exact ⟨q + 1, r, T, by omega, rfl, by go_num, HF1.out, HU.out, HG4.out, HRG4.out, HBX4.out, HNB4.out⟩
        case measure => simp [intOf]; omega
    · have hq4 : q = 4 := by omega
      subst hq4
      have HDN : Hid (Fill (TE ss N (n * N)) F (k * N + i) fc T) := Lib.hid (HFI.out.done (fun y hy => by obtain ⟨q, h1, h2⟩ := nb_all hN.1 hk hi' hy; exact ⟨q, h1, h2⟩))
      go_wp2
      go_ret
      exact ⟨T, r, rfl, HDN.out, HU.out, HGr.out, HRr.out⟩
theorem fill_any (d f : Int) (a : Option Addr) (n c N : Nat) (ss : List ByteArray) (W0 : World) (lo hi go cp : Nat) (A : Nat → Nat) (fc : Nat) (hC : Cd d f n N ss) (hR0 : SlR W0 a n (sc ss)) (hlo : W0.heap.size ≤ lo) (hfc : fc ≤ 1000000) (u : Nat) :
    ∀ (T : Nat → Int) (k i : Nat) (w : World), un (n * N) T < u → k < n → i < N → T (k * N + i) < 0 → Below W0.heap.size W0 w → hi ≤ w.heap.size → Grid w lo hi go n N A T → Calls Try.prog 64 (fillArgs d f a n c go cp k i fc) w (FillP ss lo hi go n N A fc T (k * N + i) w) := by
  induction u with
  | zero => intro T k i w h; omega
  | succ u ih => intro T k i w h hk hi' hT hB hh hG; exact fill_step d f a n c N ss W0 lo hi go cp A fc hC hR0 hlo T hfc (fun T' k i w h' => ih T' k i w (by omega)) k i w hk hi' hT hB hh hG
end Go.Proofs.Yteojoifhmaoiaaa
