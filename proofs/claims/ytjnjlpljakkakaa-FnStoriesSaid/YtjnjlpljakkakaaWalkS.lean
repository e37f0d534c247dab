/-
  Contracts of l24Walk, ShortestTale and LongestTale in the reference.
  By an AI agent.
-/
import Derived.Test.YtjnjlpljakkakaaFar
import Derived.Test.YtjnjlpljakkakaaBits
import Derived.Deep.RegionLaw
namespace Go.Proofs.Ytjnjlpljakkakaa
open Go.ChangeShapes Go.WideShapes Go.ChangeAt Go.RowKit Go.Joins Go.Deep
set_option maxRecDepth 100000
set_option linter.unusedVariables false

theorem way_one (L : Rows) (s : Nat) : way L s 0 = [0] := rfl
theorem acc_congr {L : Rows} {P Q : Nat → Prop} [DecidablePred P] [DecidablePred Q] {p m : Nat} (h : ∀ q, q < m → (P (nx L p q) ↔ Q (nx L p q))) : lst L P p m = lst L Q p m := lst_congr h
theorem lst_bd {n : Nat} {L : Rows} (hs : storyOk n L) {P : Nat → Prop} [DecidablePred P] {p : Nat} (hp : p < n) (m : Nat) (hm : m ≤ lenN L p) : -1 ≤ lst L P p m ∧ lst L P p m < n := by
  rcases lst_or (L := L) (P := P) (p := p) m with ⟨h, _⟩ | ⟨q, hq, _, h⟩
  · rw [h]; omega
  · rw [h]
    have := edge_lt hs hp (edge_nx hs hp (q := q) (by omega)).1
    omega
set_option maxHeartbeats 4000000 in
theorem walk_no (a : Option Addr) (n c : Nat) (L : Rows) (gf cf : Nat) (f : Nat → Int) (w : World) (hs : storyOk n L) (hF : Row w gf n (nc f)) (hf : f 0 = -1) :
    Calls Try.prog 48 #[.agg #[.slice a n c], .slice (some ⟨gf, 0, none⟩) n cf] w (GetL [] w) := by
  have HF := Lib.hid hF
  obtain ⟨n1, n16⟩ := hs.1
  have c0 := hF.cell (i := 0) (by omega)
  unfold nc at c0
  rw [hf] at c0
  have i0 : (0 : Int) < (n : Int) := by omega
  have i1 : 0 < n := by omega
  have hlt := hF.lt
  have HB0 := Lib.hid (Below.box w (.cells #[.slice a n c] 27 (0, 0)))
  clear hF
  go_enter Try.func48, Try.ntmps48
  go_wp2
  go_ret
  exact GetL.nil rfl (HB0.out.alloc HB0.out.size _) _ _
set_option maxHeartbeats 8000000 in
theorem walk_yes (a : Option Addr) (n c : Nat) (L : Rows) (X : Nat → Prop) (m : Bool) (gf cf : Nat) (f : Nat → Int) (s : Nat) (w : World) (hs : storyOk n L) (hR : RSt w a n L) (hF : Row w gf n (nc f)) (hT : Tab n L X m f) (h0 : X 0) (hX : ∀ p, Path L 0 p → X p) (hf : f 0 = s) (hsn : s < n) (hfb : ∀ p, p < n → -1 ≤ f p ∧ f p ≤ n) :
    Calls Try.prog 48 #[.agg #[.slice a n c], .slice (some ⟨gf, 0, none⟩) n cf] w (GetL (way L s s) w) := by
  have HS := Lib.hid hs
  obtain ⟨n1, n16⟩ := hs.1
  have HPG := Lib.hid (fun j hj => tab_pg hs hT h0 hX hf (j := j) hj)
  have HNX := Lib.hid (fun (j : Nat) (hj : j < s) (y : Nat) he => tab_next hs hT h0 hX hf (j := j) hj (y := y) he)
  have hE : E L s 0 := (tab_pg hs hT h0 hX hf 0 (Nat.zero_le _)).1
  have HOK := Lib.hid (fun j hj => pg_ok hs hE j hj)
  have HFB := Lib.hid hfb
  have hb0 := Below.box w (.cells #[.slice a n c] 27 (0, 0))
  have HB0 := Lib.hid hb0
  have HR0 := Lib.hid (hR.below hb0)
  have HF0 := Lib.hid (hF.below hb0 hF.lt)
  have hsz : (w.alloc (.cells #[.slice a n c] 27 (0, 0))).heap.size = w.heap.size + 1 := by simp
  have hc0 : (w.alloc (.cells #[.slice a n c] 27 (0, 0))).cell? ⟨w.heap.size, 0, none⟩ = some (.slice a n c) := new_cell rfl
  have HC0 := Lib.hid hc0
  have c0 := HF0.out.cell (i := 0) (by omega)
  unfold nc at c0
  rw [hf] at c0
  have hflt := hF.lt
  have i0 : (0 : Int) < (n : Int) := by omega
  have i1 : 0 < n := by omega
  have c0w := hF.cell (i := 0) (by omega)
  unfold nc at c0w
  rw [hf] at c0w
  clear hs hR hF hT h0 hX hb0 hc0 hfb c0
  have O0 : Hid (Own1 ((w.alloc (.cells #[.slice a n c] 27 (0, 0))).alloc (.cells #[] 3 (0, 0))) (w.alloc (.cells #[.slice a n c] 27 (0, 0))).heap.size 3 (w.heap.size + 1) 0 0 []) := Lib.hid (by have o := Own1.empty (w.alloc (.cells #[.slice a n c] 27 (0, 0))) 3; rw [hsz] at o ⊢; exact o)
  go_enter Try.func48, Try.ntmps48
  have BX := Lib.hid ((Below.box (w.alloc (.cells #[.slice a n c] 27 (0, 0))) (.cells #[] 3 (0, 0))).trans (((Below.refl _ _).alloc (Nat.le_refl _) (.cells #[.int .i64 0] 3 (0, 0))).mono (by simp)))
  go_wp2_with (at_builtin; refine append_one rfl _ _ 31 rfl Try.underlying31 infoInt rfl (by omega) rfl (O0.out.alloc _) (by omega) rfl (new_cell (by simp)) rfl ?_; intro g' c' w3 o3 oo3 l3; have O3 := Lib.hid o3; have OO3 := Lib.hid oo3; clear o3 oo3 l3)
  have HB3 := Lib.hid (BX.out.trans (OO3.out.toBelow (Nat.le_of_eq hsz) BX.out.size))
  clear BX OO3 O0 c0w
  generalize hW : w.alloc (.cells #[.slice a n c] 27 (0, 0)) = W at *
  clear hW
  generalize hbx : w.heap.size = bx at *
  have FIN : Hid (∀ w', Below W.heap.size W w' → Below w.heap.size w w') := Lib.hid (fun w' h => by rw [hbx]; exact HB0.out.trans (h.mono (by omega)))
  have HSZ := Lib.hid hsz
  have HGE : Hid (w.heap.size ≤ W.heap.size) := Lib.hid (by omega)
  clear hbx
  go_loopw [5, 6] (fun v i wr => ∃ (j g1 c1 : Nat), j ≤ s ∧ i = .int .i64 (pg L s j : Int) ∧ v = .slice (some ⟨g1, 0, none⟩) (j + 1) c1 ∧ Own1 wr W.heap.size 3 g1 (j + 1) c1 ((way L s j).map (Value.int .i64)) ∧ Below W.heap.size W wr) (fun v _ _ => s + 1 - (match v with | .slice _ n _ => n | _ => 0))
  case atStart => exact ⟨0, g', c', Nat.zero_le _, rfl, rfl, by rw [way_one]; exact O3.out, HB3.out⟩
  case round =>
    clear O3 HB3
    obtain ⟨j, g1, c1, hj, rfl, rfl, h1, hB⟩ := hrel
    rename World => wo
    have H1 := Lib.hid h1
    have HB := Lib.hid hB
    clear h1 hB
    obtain ⟨p1, p2, _⟩ := HOK.out j hj
    have hfp := (HPG.out j hj).2
    obtain ⟨g, α, C, rfl, lg, r0, hC, s0⟩ := HR0.out.at p1
    have r1 := (HB.out.cell (p := ⟨g, pg L s j, none⟩) lg).trans r0
    have cP := (HB.out.cell (p := ⟨bx, 0, none⟩) (by show bx < _; omega)).trans HC0.out
    have S0 := Lib.hid s0
    have HR0c := Lib.hid r0
    have hlen : lenN L (pg L s j) ≤ 4 := (HS.out.2 _ p1).1
    have HML : Hid (lenN L (pg L s j) = lenN L (pg L s j)) := Lib.hid rfl
    clear r0 s0
    have j0 : (0 : Int) ≤ (pg L s j : Int) := Int.natCast_nonneg _
    have j1 : (pg L s j : Int) < (n : Int) := by omega
    by_cases hjs : j = s
    · subst hjs
      have h0 : lenN L (pg L j j) = 0 := by rw [Nat.sub_self] at p2; exact p2
      rw [h0] at r1
      generalize pg L j j = p at *
      go_wp2
      go_ret
      exact GetL.own H1.out HGE.out (FIN.out _ HB.out)
    · have hpos : 0 < lenN L (pg L s j) := E_len (by rw [show s - j = s - (j + 1) + 1 by omega] at p2; exact p2)
      have HBEST : Hid (lst L (fun y => f y = f (pg L s j) - 1) (pg L s j) (lenN L (pg L s j)) = (pg L s (j + 1) : Int)) := Lib.hid (by
        classical
        have hk := nxt_ok HS.out p1 (k := s - (j + 1)) (by rw [show s - (j + 1) + 1 = s - j by omega]; exact p2)
        rw [show (pg L s (j + 1)) = nxt L (s - (j + 1)) (pg L s j) from rfl, ← hk.1]
        exact lst_congr fun q hq => HNX.out j (by omega) _ (edge_nx HS.out p1 hq).1)
      have HWS := Lib.hid (way_succ L s j)
      have HLB := Lib.hid (fun q (hq : q ≤ lenN L (pg L s j)) => lst_bd HS.out (P := fun y => f y = f (pg L s j) - 1) p1 q hq)
      have HNE := Lib.hid (fun q (hq : q < lenN L (pg L s j)) => edge_nx HS.out p1 hq)
      have hcp := (HF0.out.below HB.out (by rw [HSZ.out]; omega)).cell p1
      unfold nc at hcp
      have HFP := Lib.hid hfp
      have hfpb : 0 ≤ f (pg L s j) ∧ f (pg L s j) ≤ 16 := by omega
      obtain ⟨fp0, fp1⟩ := hfpb
      clear p2 hfp
      have HROW : Hid (∀ q, q < lenN L (pg L s j) → nx L (pg L s j) q < n) := Lib.hid (fun q hq => edge_lt HS.out p1 (HNE.out q hq).1)
      have HLS : Hid (∀ q, lst L (fun y => f y = f (pg L s j) - 1) (pg L s j) (q + 1) = if f (nx L (pg L s j) q) = f (pg L s j) - 1 ∧ (lst L (fun y => f y = f (pg L s j) - 1) (pg L s j) q < 0 ∨ (nx L (pg L s j) q : Int) < lst L (fun y => f y = f (pg L s j) - 1) (pg L s j) q) then (nx L (pg L s j) q : Int) else lst L (fun y => f y = f (pg L s j) - 1) (pg L s j) q) := Lib.hid (fun q => rfl)
      generalize hpp : pg L s j = p at *
      generalize hml : lenN L p = ml at *
      generalize hfpv : f p = fp at *
      clear hpp
      have j5 : (0 : Int) < (ml : Int) := by omega
      go_wp2
      go_loopw [7, 8] (fun b i wr => ∃ q : Nat, q ≤ ml ∧ i = .int .i64 q ∧ b = .int .i64 (lst L (fun y => f y = fp - 1) p q) ∧ Below wo.heap.size wo wr) (fun _ i _ => ml - (intOf i).toNat)
      case atStart => exact ⟨0, Nat.zero_le _, rfl, rfl, Below.refl _ _⟩
      case round =>
        obtain ⟨q, hq, rfl, rfl, hB2⟩ := hrel
        rename World => wi
        have HB2 := Lib.hid hB2
        clear hB2
        have HBI := Lib.hid (HB.out.trans (HB2.out.mono HB.out.size))
        have r2 := (HBI.out.cell (p := ⟨g, p, none⟩) lg).trans HR0c.out
        have cP2 := (HBI.out.cell (p := ⟨bx, 0, none⟩) (by show bx < _; omega)).trans HC0.out
        by_cases hlq : q < ml
        · obtain ⟨g3, rfl, hr3⟩ := (S0.out.below HBI.out).row (by omega)
          have c2 := hr3.cell hlq
          unfold ic at c2
          rw [(HNE.out q hlq).2] at c2
          have hyn := HROW.out q hlq
          have hrowf := HF0.out.below HBI.out (by rw [HSZ.out]; omega)
          have c3 := hrowf.cell hyn
          have c4 := hrowf.cell p1
          unfold nc at c3 c4
          rw [hfpv] at c4
          obtain ⟨b0, b1⟩ := HLB.out q hq
          have hfb := HFB.out _ hyn
          have HL := Lib.hid (HLS.out q)
          clear hr3 hrowf
          generalize nx L p q = x at *
          generalize f x = fx at *
          generalize lst L (fun y => f y = fp - 1) p q = b at *
          obtain ⟨y0, y1⟩ := hfb
          have e1 : IntKind.i64.wrap (fp - 1) = fp - 1 := IntWalk.i64_in _ (by omega)
          have x0 : (0 : Int) ≤ (x : Int) := Int.natCast_nonneg _
          have x1 : (x : Int) < (n : Int) := by omega
          have A : (fx ≠ fp - 1) ∨ (fx = fp - 1 ∧ b < 0) ∨ (fx = fp - 1 ∧ 0 ≤ b ∧ (x : Int) < b) ∨ (fx = fp - 1 ∧ 0 ≤ b ∧ b ≤ (x : Int)) := by omega
          rcases A with h1 | ⟨h1, h2⟩ | ⟨h1, h2, h3⟩ | ⟨h1, h2, h3⟩
          · have t1 : (fx == fp - 1) = false := by simpa using h1
            rw [if_neg (fun h => h1 h.1)] at HL
            clear h1
            go_wp2
            go_quiet (fail)
            clear e1
            go_wp2
            go_roundw
            case rel => exact ⟨q + 1, by omega, by go_num, by rw [HL.out], below_drewN HB2.out _⟩
            case measure => simp [intOf]; omega
          · have t1 : (fx == fp - 1) = true := by simpa using h1
            have t2 : decide (b < 0) = true := decide_eq_true h2
            rw [if_pos ⟨h1, .inl h2⟩] at HL
            clear h1
            go_wp2
            go_quiet (fail)
            clear e1
            go_wp2
            go_roundw
            case rel => exact ⟨q + 1, by omega, by go_num, by rw [HL.out], below_drewN HB2.out _⟩
            case measure => simp [intOf]; omega
          · have t1 : (fx == fp - 1) = true := by simpa using h1
            have t2 : decide (b < 0) = false := decide_eq_false (by omega)
            have t3 : decide ((x : Int) < b) = true := decide_eq_true h3
            rw [if_pos ⟨h1, .inr h3⟩] at HL
            clear h1
            go_wp2
            go_quiet (fail)
            clear e1
            go_wp2
            go_roundw
            case rel => exact ⟨q + 1, by omega, by go_num, by rw [HL.out], below_drewN HB2.out _⟩
            case measure => simp [intOf]; omega
          · have t1 : (fx == fp - 1) = true := by simpa using h1
            have t2 : decide (b < 0) = false := decide_eq_false (by omega)
            have t3 : decide ((x : Int) < b) = false := decide_eq_false (by omega)
            rw [if_neg (fun h => by omega)] at HL
            clear h1
            go_wp2
            go_quiet (fail)
            clear e1
            go_wp2
            go_roundw
            case rel => exact ⟨q + 1, by omega, by go_num, by rw [HL.out], below_drewN HB2.out _⟩
            case measure => simp [intOf]; omega
        · have hq' : q = ml := by omega
          subst hq'
          have H1i := Lib.hid (H1.out.below HB2.out)
          have hl1 := H1i.out.lt
          rw [HBEST.out]
          go_wp2_with (at_builtin; refine append_one rfl _ _ 31 rfl Try.underlying31 infoInt rfl (by omega) rfl (H1i.out.alloc _) (by omega) rfl (new_cell (by simp)) rfl ?_; intro g' c' w3 o3 oo3 l3; have O3 := Lib.hid o3; have OO3 := Lib.hid oo3; clear o3 oo3 l3)
          go_roundw
          case rel =>
            have b2 := HBI.out.alloc (o := .cells #[.int .i64 (pg L s (j + 1) : Int)] 3 (0, 0)) HBI.out.size
            exact ⟨j + 1, g', c', by omega, rfl, rfl, by rw [HWS.out, List.map_append]; exact O3.out, b2.trans (OO3.out.toBelow hl1.1 b2.size)⟩
          case measure => simp; omega
end Go.Proofs.Ytjnjlpljakkakaa
