/-
  Contract of TouchingFaces in the program.
  By an AI agent.
-/
import Derived.Test.YteojoifhmaoiaaaTouchL
import Derived.BigRegion
namespace Go.Proofs.Yteojoifhmaoiaaa
open Go.ChangeShapes Go.WideShapes Go.ChangeAt Go.RowKit Go.Joins Go.Deep
set_option maxRecDepth 100000
set_option linter.unusedVariables false

set_option maxHeartbeats 8000000 in
theorem iTouchingFaces_any (d f : Int) (a : Option Addr) (n c : Nat) (ss : List ByteArray) (F : Nat → Nat) (k : Nat) (w : World) (hF : FcO d f n ss F k) (hl : ss.length = n) (hm : (n : Int) + tot ss n ≤ 1048576) (hR : SlR w a n (sc ss)) :
    Calls Try.prog 13 #[.agg #[.int .i64 d, .int .i64 f, .slice a n c]] w (GetR (touchR d f n ss F k) w) := by
  have HB0 := Lib.hid (Below.box w (.cells #[.int .i64 d, .int .i64 f, .slice a n c] 26 (0, 0)))
  have HR := Lib.hid (hR.below HB0.out)
  have HF := Lib.hid hF
  have HL := Lib.hid hl
  clear hR hF hl
  go_enter Try.func13, Try.ntmps13
  cases ho : cardOkB d f ss
  · have HV : Hid (touchR d f n ss F k = []) := Lib.hid (by unfold touchR; rw [ho]; rfl)
    have HO := Lib.hid ho
    clear ho
    go_wp2_with (go_at_call 40; refine (iCardOk_any _ _ _ _ _ _ _ HL.out hm HR.out).mono ?_; rw [HO.out]; rintro e w1 ⟨rfl, hb1⟩; have HB1 := Lib.hid (HB0.out.trans (hb1.mono HB0.out.size)); clear hb1)
    go_ret
    exact GetR.nil HV.out HB1.out _ _
  · obtain ⟨N, hC, hFc, h160⟩ := HF.out.yes ho HL.out hm
    have hN : (d + f).toNat = N := by have := hC.sum; omega
    have HV : Hid (touchR d f n ss F k = tcL (tbB F N k (n * N)) k (k * k)) := Lib.hid (by unfold touchR; rw [if_pos ho, hN])
    have hbd := hC.bds.2
    have HC := Lib.hid hC
    have HFc := Lib.hid hFc
    have HO := Lib.hid ho
    clear ho hC hFc hN
    go_wp2_with (go_at_call 40; refine (iCardOk_any _ _ _ _ _ _ _ HL.out hm HR.out).mono ?_; rw [HO.out]; rintro e w1 ⟨rfl, hb1⟩; have HR1 := Lib.hid (HR.out.below hb1); have HB1 := Lib.hid (HB0.out.trans (hb1.mono HB0.out.size)); obtain ⟨d0, d1, d2⟩ := box3 hb1; clear hb1)
    go_wp2_with (go_at_call 42; refine (faces_any d f _ n c N ss _ HC.out HR1.out).mono ?_; rintro e w2 ⟨lo, hi, go, cp, gz, cz, A, G, zs, rfl, _, hGr, hS, _, _, _, hb2⟩; have HB2 := Lib.hid (HB1.out.trans (hb2.mono HB1.out.size)); have HS := Lib.hid hS; have HGr := Lib.hid hGr; clear hb2 hS hGr)
    have HF1 : Hid (∀ t, t < n * N → G t = ((G t).toNat : Int)) := Lib.hid (fun t ht => by have := HS.out.pos ht; omega)
    have HF2 : Hid (∀ t, t < n * N → (G t).toNat = F t) := Lib.hid (HFc.out.eq _ HS.out.done)
    have HF3 : Hid (∀ t, t < n * N → F t < k) := Lib.hid (fun t ht => by rw [← HF2.out t ht, ← HFc.out.top _ HS.out.done]; exact lt_top (F := fun y => (G y).toNat) ht)
    have HCELL : Hid (∀ w', Below w2.heap.size w2 w' → ∀ q, q < n → w'.cell? ⟨go, q, none⟩ = some (.slice (some ⟨A q, 0, none⟩) N N) ∧ Row w' (A q) N (nc (fun i => F (q * N + i)))) := Lib.hid (fun w' hb q hq => by
      have h1 := HGr.out.below hb
      refine ⟨h1.head.cell hq, (h1.row q hq).congr (fun i hi => ?_)⟩
      have ht := tile_lt hq hi
      unfold gcell nc
      dsimp only
      rw [← HF2.out _ ht, ← HF1.out _ ht])
    have HBD : Hid (Bld (w2.alloc (.cells #[] 28 (0, 0))) w2.heap.size w2.heap.size 0 [] (fun _ => 0)) := Lib.hid (Bld.start w2)
    have HBA := Lib.hid (Below.box w2 (.cells #[] 28 (0, 0)))
    have hsz2 := HB2.out.size
    have HP0 : Hid (PR F N (0 * N) = []) := Lib.hid (by rw [Nat.zero_mul]; rfl)
    clear HC HFc HF HS HGr HF1 HF2 HR HR1 HB0 HB1 d0 d1 d2
    go_wp2
    go_loopw [5, 22] (fun v x wo => ∃ (q g cg : Nat) (B : Nat → Nat), q ≤ n ∧ x = .int .i64 q ∧ v = .slice (some ⟨g, 0, none⟩) (PR F N (q * N)).length cg ∧ Bld wo w2.heap.size g cg (PR F N (q * N)) B ∧ Below w2.heap.size w2 wo) (fun _ x _ => n - (intOf x).toNat)
    case atStart => exact ⟨0, w2.heap.size, 0, _, Nat.zero_le _, rfl, by rw [HP0.out]; rfl, by rw [HP0.out]; exact HBD.out, HBA.out⟩
    case round =>
      obtain ⟨q, g, cg, B, hq, rfl, rfl, h1, h2⟩ := hrel
      rename World => wo
      have H1 := Lib.hid h1
      have H2 := Lib.hid h2
      clear h1 h2
      by_cases hlq : q < n
      · have cq := (HCELL.out wo H2.out q hlq).1
        have HP1 : Hid (PR F N (q * N + 1) = PR F N (q * N)) := Lib.hid (PR_no (fun h => by rw [Nat.mul_mod_left] at h; omega))
        have hqN : q * N + N ≤ n * N := by
          have := Nat.mul_le_mul_right N (show q + 1 ≤ n from hlq)
          rw [Nat.succ_mul] at this
          exact this
        have HP2 : Hid (PR F N ((q + 1) * N) = PR F N (q * N + N)) := Lib.hid (by rw [Nat.succ_mul])
        go_wp2
        go_loopw [5, 8] (fun v x wi => ∃ (i g cg : Nat) (B : Nat → Nat), 1 ≤ i ∧ i ≤ N ∧ x = .int .i64 i ∧ v = .slice (some ⟨g, 0, none⟩) (PR F N (q * N + i)).length cg ∧ Bld wi w2.heap.size g cg (PR F N (q * N + i)) B ∧ Below w2.heap.size w2 wi) (fun _ x _ => N - (intOf x).toNat)
        case atStart => exact ⟨1, g, cg, B, Nat.le_refl _, by omega, rfl, by rw [HP1.out], by rw [HP1.out]; exact H1.out, H2.out⟩
        case round =>
          clear H1 H2
          obtain ⟨i, g, cg, B, hi1, hi, rfl, rfl, h1, h2⟩ := hrel
          rename World => wi
          have H1 := Lib.hid h1
          have H2 := Lib.hid h2
          clear h1 h2
          by_cases hli : i < N
          · obtain ⟨ip, hip⟩ : ∃ ip, ip = i - 1 := ⟨_, rfl⟩
            have hip1 : ip < N := by omega
            have hti : q * N + i < n * N := by omega
            have htp : q * N + ip < n * N := by omega
            have HTP : Hid (q * N + i - 1 = q * N + ip) := Lib.hid (by omega)
            have HTM : Hid ((q * N + i) % N = i) := Lib.hid (tile_mod hli)
            have HIP := Lib.hid hip
            have hrow := (HCELL.out wi H2.out q hlq).2
            have ci := hrow.cell hli
            have cip := hrow.cell hip1
            unfold nc at ci cip
            dsimp only at ci cip
            have e2 : IntKind.i64.wrap ((i : Int) - 1) = (ip : Int) := by rw [show (i : Int) - 1 = (ip : Int) by omega]; exact IntWalk.i64_in _ (by omega)
            have i0 : (0 : Int) ≤ (i : Int) := Int.natCast_nonneg _
            have i1 : (i : Int) < (N : Int) := by omega
            have i2 : (0 : Int) ≤ (ip : Int) := Int.natCast_nonneg _
            have i3 : (ip : Int) < (N : Int) := by omega
            have hlen : (PR F N (q * N + i)).length ≤ 160 := Nat.le_trans (PR_len F N _) (by omega)
            have hfi := HF3.out _ hti
            clear hrow hip
            by_cases hne : F (q * N + ip) = F (q * N + i)
            · have eg : (((F (q * N + ip) : Nat) : Int) != ((F (q * N + i) : Nat) : Int)) = false := by rw [hne]; simp
              have HNX : Hid (PR F N (q * N + (i + 1)) = PR F N (q * N + i)) := Lib.hid (PR_no (t := q * N + i) (fun h => by rw [HTP.out] at h; exact h.2 hne.symm))
              clear hne
              generalize F (q * N + ip) = x at *
              generalize F (q * N + i) = y at *
              go_wp2
              go_region
              go_wp2
              go_roundw
              case rel => exact ⟨i + 1, g, cg, B, by omega, by omega, by go_num, by rw [HNX.out], by rw [HNX.out]; exact H1.out.heap rfl, ⟨H2.out.os, H2.out.tape, H2.out.output, H2.out.size, H2.out.block⟩⟩
              case measure => simp [intOf]; omega
            · have eg : (((F (q * N + ip) : Nat) : Int) != ((F (q * N + i) : Nat) : Int)) = true := by simp; intro h; exact hne (by omega)
              obtain ⟨mn, hmn0⟩ : ∃ mn, mn = min (F (q * N + i)) (F (q * N + ip)) := ⟨_, rfl⟩
              obtain ⟨mx, hmx0⟩ : ∃ mx, mx = max (F (q * N + i)) (F (q * N + ip)) := ⟨_, rfl⟩
              have hnx : PR F N (q * N + (i + 1)) = PR F N (q * N + i) ++ [[(mn : Int), (mx : Int)]] := by
                have := PR_yes (F := F) (N := N) (t := q * N + i) ⟨by rw [HTM.out]; omega, by rw [HTP.out]; exact fun h => hne h.symm⟩
                rw [HTP.out, ← hmn0, ← hmx0] at this
                exact this
              have HNX := Lib.hid hnx
              have HNL : Hid ((PR F N (q * N + (i + 1))).length = (PR F N (q * N + i)).length + 1) := Lib.hid (by rw [hnx, List.length_append]; rfl)
              clear hnx
              generalize F (q * N + ip) = x at *
              generalize F (q * N + i) = y at *
              go_wp2
              go_region
              go_upto_region 13 with (fail)
              have Y1 : Hid (Bld wi.drew w2.heap.size g cg (PR F N (q * N + i)) B) := Lib.hid (H1.out.heap rfl)
              have Y2 : Hid (Below w2.heap.size w2 wi.drew) := Lib.hid ⟨H2.out.os, H2.out.tape, H2.out.output, H2.out.size, H2.out.block⟩
              clear ci cip H1 H2
              generalize wi.drew = wy at *
              have hwy := Y2.out.size
              have HX1 := Lib.hid (Below.box wy (.cells #[.int .i64 (mn : Int), .int .i64 (mx : Int)] 3 (0, 0)))
              have hsX : (wy.alloc (.cells #[.int .i64 (mn : Int), .int .i64 (mx : Int)] 3 (0, 0))).heap.size = wy.heap.size + 1 := by simp
              have HX2 : Hid (Below wy.heap.size wy ((wy.alloc (.cells #[.int .i64 (mn : Int), .int .i64 (mx : Int)] 3 (0, 0))).alloc (.cells #[.slice (some ⟨wy.heap.size, 0, none⟩) 2 2] 28 (0, 0)))) := Lib.hid (HX1.out.alloc (by omega) _)
              have HOWN : Hid (Own1 ((wy.alloc (.cells #[.int .i64 (mn : Int), .int .i64 (mx : Int)] 3 (0, 0))).alloc (.cells #[.slice (some ⟨wy.heap.size, 0, none⟩) 2 2] 28 (0, 0))) w2.heap.size 28 g (PR F N (q * N + i)).length cg (hdv B (PR F N (q * N + i)))) := Lib.hid ((Y1.out.own.alloc _).alloc _)
              have HCEL : Hid (((wy.alloc (.cells #[.int .i64 (mn : Int), .int .i64 (mx : Int)] 3 (0, 0))).alloc (.cells #[.slice (some ⟨wy.heap.size, 0, none⟩) 2 2] 28 (0, 0))).cell? ⟨wy.heap.size + 1, 0, none⟩ = some (.slice (some ⟨wy.heap.size, 0, none⟩) 2 2)) := Lib.hid (new_cell hsX.symm)
              have HXR : Hid (Row ((wy.alloc (.cells #[.int .i64 (mn : Int), .int .i64 (mx : Int)] 3 (0, 0))).alloc (.cells #[.slice (some ⟨wy.heap.size, 0, none⟩) 2 2] 28 (0, 0))) wy.heap.size 2 (ic [(mn : Int), (mx : Int)])) := Lib.hid (((Row.of_new wy #[.int .i64 (mn : Int), .int .i64 (mx : Int)] 3).alloc _).congr (fun i hi => by
                have hi2 : i = 0 ∨ i = 1 := by simp at hi; omega
                rcases hi2 with rfl | rfl <;> rfl))
              have HSZ2 : Hid (((wy.alloc (.cells #[.int .i64 (mn : Int), .int .i64 (mx : Int)] 3 (0, 0))).alloc (.cells #[.slice (some ⟨wy.heap.size, 0, none⟩) 2 2] 28 (0, 0))).heap.size = wy.heap.size + 2) := Lib.hid (by simp)
              clear hsX
              rcases Nat.lt_or_ge x y with hlt | hlt
              · have m1 : (x : Int) < (y : Int) := by omega
                have hmn : mn = x := by omega
                have hmx : mx = y := by omega
                have q1 : min (x : Int) (y : Int) = (mn : Int) := by omega
                have q2 : max (x : Int) (y : Int) = (mx : Int) := by omega
                clear hne hmn0 hmx0
                subst hmn hmx
                go_wp2_with (at_builtin; refine append_one rfl _ _ 31 rfl Try.underlying31 infoRowB rfl (by omega) rfl HOWN.out (by omega) rfl HCEL.out rfl ?_; intro g' c' w5 o5 oo5 l5; have O5 := Lib.hid o5; have OO5 := Lib.hid oo5; have L5 := Lib.hid l5; clear o5 oo5 l5)
                have hgl := Y1.out.own.lt
                have hsz5 := OO5.out.size
                rw [HSZ2.out] at hsz5
                have HPU := Lib.hid (Y1.out.push (r := [(mn : Int), (mx : Int)]) HX2.out (Nat.le_refl _) HXR.out (by omega) O5.out OO5.out L5.out)
                have HJ5 : Hid (Below w2.heap.size w2 w5) := Lib.hid (Y2.out.trans ((HX2.out.mono (by omega)).trans (OO5.out.toBelow (by omega) (by rw [HSZ2.out]; omega))))
                go_roundw
                case rel => exact ⟨i + 1, g', c', _, by omega, by omega, by go_num, by rw [HNL.out], by rw [HNX.out]; exact HPU.out, HJ5.out⟩
                case measure => simp [intOf]; omega
              · have hlt : y < x := by omega
                have m1 : (y : Int) < (x : Int) := by omega
                have hmn : mn = y := by omega
                have hmx : mx = x := by omega
                have q1 : min (x : Int) (y : Int) = (mn : Int) := by omega
                have q2 : max (x : Int) (y : Int) = (mx : Int) := by omega
                clear hne hmn0 hmx0
                subst hmn hmx
                go_wp2_with (at_builtin; refine append_one rfl _ _ 31 rfl Try.underlying31 infoRowB rfl (by omega) rfl HOWN.out (by omega) rfl HCEL.out rfl ?_; intro g' c' w5 o5 oo5 l5; have O5 := Lib.hid o5; have OO5 := Lib.hid oo5; have L5 := Lib.hid l5; clear o5 oo5 l5)
                have hgl := Y1.out.own.lt
                have hsz5 := OO5.out.size
                rw [HSZ2.out] at hsz5
                have HPU := Lib.hid (Y1.out.push (r := [(mn : Int), (mx : Int)]) HX2.out (Nat.le_refl _) HXR.out (by omega) O5.out OO5.out L5.out)
                have HJ5 : Hid (Below w2.heap.size w2 w5) := Lib.hid (Y2.out.trans ((HX2.out.mono (by omega)).trans (OO5.out.toBelow (by omega) (by rw [HSZ2.out]; omega))))
                go_roundw
                case rel => exact ⟨i + 1, g', c', _, by omega, by omega, by go_num, by rw [HNL.out], by rw [HNX.out]; exact HPU.out, HJ5.out⟩
                case measure => simp [intOf]; omega
          · have hi' : i = N := by omega
            subst hi'
            go_wp2
            go_roundw
            case rel => exact ⟨q + 1, g, cg, B, by omega, by go_num, by rw [HP2.out], by rw [HP2.out]; exact H1.out, H2.out⟩
            case measure => simp [intOf]; omega
      · have hq' : q = n := by omega
        subst hq'
        have hgl := H1.out.own.lt
        have hwo := H2.out.size
        have hlen : (PR F N (q * N)).length ≤ 160 := Nat.le_trans (PR_len F N _) h160
        obtain ⟨P0, hP0⟩ : ∃ P0, P0 = PR F N (q * N) := ⟨_, rfl⟩
        have HP := Lib.hid hP0
        rw [← hP0] at H1 hlen ⊢
        clear hP0
        have HFIN : Hid (∀ w4 w5 (cg' : Nat) (L' : Rows) (x y : Nat → Nat) (B' : Nat → Nat), OnlyB g wo w4 → OnlyB g w4 w5 → (kpI (fun i => (x i : Int)) (fun i => (y i : Int)) L'.length).map (rowN L') = touchR d f q ss F k →
            Bld w5 w2.heap.size g cg ((kpI (fun i => (x i : Int)) (fun i => (y i : Int)) L'.length).map (rowN L')) B' → GetR (touchR d f q ss F k) w (.returned (.slice (some ⟨g, 0, none⟩) (kpI (fun i => (x i : Int)) (fun i => (y i : Int)) L'.length).length cg)) w5) := Lib.hid (fun w4 w5 cg' L' x y B' h4 h5 he hB => by
          rw [← he]
          unfold GetR
          rw [List.length_map]
          have hb4 := h4.toBelow (B := w2.heap.size) (by omega) (by omega)
          have hb5 := h5.toBelow (B := w2.heap.size) (by omega) (Nat.le_trans hwo h4.size)
          refine ⟨_, _, rfl, .inr ⟨g, rfl, ?_⟩, HB2.out.trans ((H2.out.trans (hb4.trans hb5)).mono HB2.out.size)⟩
          have := hB.ost
          rw [List.length_map] at this
          exact this.mono HB2.out.size)
        have HLT : Hid (∀ p, p ∈ prL F N (q * N) → p.1 < k ∧ p.2 < k) := Lib.hid (prL_lt HF3.out (q * N) (Nat.le_refl _))
        have HVT : Hid (touchR d f q ss F k = tcL (fun c => (prL F N (q * N)).any fun p => decide (p.1 * k + p.2 = c)) k (k * k)) := Lib.hid HV.out
        by_cases h0 : P0.length = 0
        · have hP1 : P0 = [] := List.length_eq_zero_iff.1 h0
          have HP1 := Lib.hid hP1
          rw [h0]
          rw [hP1] at H1
          have hcomp := compactPairs w2.heap.size g cg [] B (fun i => ((0 : Nat) : Int)) (fun i => ((0 : Nat) : Int)) wo H1.out (fun i hi => absurd hi (Nat.not_lt_zero i)) (by simp)
          have HCMP := Lib.hid hcomp
          clear hcomp h0 hP1
          go_wp2_with (first | (go_at_call 43; refine (sh_slices_SortFunc_none (α := Nat) _ _ _ _).mono ?_; rintro e w4 ⟨rfl, rfl⟩) | (go_at_call 45; refine HCMP.out.mono ?_; rintro e w5 ⟨rfl, ho5, B5, hB5⟩; have HO5 := Lib.hid ho5; have HB5 := Lib.hid hB5; clear ho5 hB5))
          go_ret
          refine HFIN.out _ _ 0 [] (fun _ => 0) (fun _ => 0) B5 (OnlyB.refl _ _) HO5.out ?_ HB5.out
          have hpr : prL F N (q * N) = [] := by
            have h1 := HP.out
            rw [HP1.out] at h1
            unfold PR at h1
            exact List.map_eq_nil_iff.1 h1.symm
          rw [HVT.out, hpr, tcL_eq]
          simp [kpI]
        · have hrows : ∀ i, i < P0.length → ∃ p, p ∈ prL F N (q * N) ∧ rowN P0 i = pr2 p := fun i hi => by
            have h1 : rowN P0 i ∈ P0 := by unfold rowN; rw [getD_at _ _ hi]; exact List.getElem_mem hi
            have h2 := h1
            rw [HP.out] at h2
            unfold PR at h2
            obtain ⟨p, hp, e⟩ := List.mem_map.1 h2
            exact ⟨p, hp, by rw [e, HP.out]; rfl⟩
          have hr0 : ∀ i, i < P0.length → rowN P0 i = [(rowN P0 i).getD 0 0, (rowN P0 i).getD 1 0] := fun i hi => by
            obtain ⟨p, _, e⟩ := hrows i hi
            rw [e]
            rfl
          have hsort := sortPairs w2.heap.size g cg P0 B (fun i => (rowN P0 i).getD 0 0) (fun i => (rowN P0 i).getD 1 0) wo H1.out hr0 (by omega) (by omega)
          have HSRT := Lib.hid hsort
          clear hsort hr0 hrows
          go_wp2_with (go_at_call 43; refine HSRT.out.mono ?_; rintro e w4 ⟨rfl, L4, B4, hl4, hB4, ho4, hm4, hs4⟩; have HO4 := Lib.hid ho4; have HB4 := Lib.hid hB4; have HM4 := Lib.hid hm4; have HS4 := Lib.hid hs4; have HL4 := Lib.hid hl4; clear ho4 hB4 hm4 hs4 hl4 HSRT)
          obtain ⟨x, y, hxy, hfin⟩ := touch_final (L' := L4) (ps := prL F N (q * N)) (m := k) HLT.out (fun r => by rw [HM4.out r, HP.out]; rfl) HS4.out
          have HFI := Lib.hid hfin
          have hcomp := compactPairs w2.heap.size g cg L4 B4 (fun i => (x i : Int)) (fun i => (y i : Int)) w4 HB4.out hxy (by rw [HL4.out]; omega)
          have hc2 := hcomp
          rw [show L4.length = P0.length from HL4.out] at hc2
          have HCMP := Lib.hid hc2
          clear hcomp hc2 hfin hxy
          go_wp2_with (go_at_call 45; refine HCMP.out.mono ?_; rintro e w5 ⟨rfl, ho5, B5, hB5⟩; have HO5 := Lib.hid ho5; have HB5 := Lib.hid hB5; clear ho5 hB5)
          go_ret
          have hf := HFIN.out w4 w5 0 L4 x y B5 HO4.out HO5.out (by rw [HFI.out, HVT.out]) (by rw [HL4.out]; exact HB5.out)
          rw [HL4.out] at hf
          exact hf
end Go.Proofs.Yteojoifhmaoiaaa
