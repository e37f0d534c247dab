/-
  The contract of ThickOrder in the reference.
  By an AI agent.
-/
import Derived.Test.YtjkcmjnejbobeaaTOrd
import Derived.Test.YtjkcmjnejbobeaaBookG
namespace Go.Proofs.Ytjkcmjnejbobeaa
open Go.ChangeShapes Go.WideShapes Go.ChangeAt Go.RowKit Go.Joins Go.Deep
set_option maxRecDepth 100000
set_option linter.unusedVariables false

/-- The order of a book. -/
def thO (xs : List DCard) (sh : Int) : Nat → Nat := ordF (tcN xs sh) xs.length
def thR (xs : List DCard) (sh : Int) : List Int := if bookB xs sh = true then nl (zgF (thO xs sh) xs.length) xs.length else []
theorem thR_len (xs : List DCard) (sh : Int) : (thR xs sh).length ≤ 20 := by
  unfold thR
  by_cases h : bookB xs sh = true
  · rw [if_pos h, nl_len]; exact (bookB_iff.1 h).1
  · rw [if_neg h]; exact Nat.zero_le _
def vl (f : Nat → Nat) (n : Nat) : List Value := (nl f n).map (Value.int .i64)
theorem vl_succ (f : Nat → Nat) (n : Nat) : vl f (n + 1) = vl f n ++ [.int .i64 (f n : Nat)] := by unfold vl; rw [nl_succ, List.map_append]; rfl
theorem vl_congr {f g : Nat → Nat} {n : Nat} (h : ∀ i, i < n → f i = g i) : vl f n = vl g n := by unfold vl; rw [nl_congr h]
theorem vl_set {f : Nat → Nat} {n j : Nat} (v : Nat) : (vl f n).set j (.int .i64 (v : Nat)) = vl (fun i => if i = j then v else f i) n := by
  unfold vl
  rw [← nl_set, List.map_set]
theorem Own1.vcell {w : World} {B g n c : Nat} {e : TypeId} {f : Nat → Nat} (h : Own1 w B e g n c (vl f n)) {i : Nat} (hi : i < n) : w.cell? ⟨g, i, none⟩ = some (.int .i64 (f i : Nat)) := by
  have := (Own1.cells h).cell hi
  unfold ic at this
  rw [nl_at hi] at this
  exact this
theorem zg_odd {k u t : Nat} (ht : t < k) (hk : k ≤ 20) (hu : u = t / 2) : ∃ u' : Nat, u' = k - 1 - u ∧ IntKind.i64.wrap ((k : Int) - 1) = (k : Int) - 1 ∧ IntKind.i64.wrap ((k : Int) - 1 - (u : Int)) = (u' : Int) ∧ wrap64 (u : Int) = (u : Int) ∧ wrap64 ((k : Int) - 1 - (u : Int)) = (u' : Int) ∧ (u' : Int) < (k : Int) ∧ (0 : Int) ≤ (u' : Int) ∧ u' < k ∧ IntKind.i64.wrap (u : Int) = (u : Int) := by
  have h1 : (k : Int) - 1 - (u : Int) = ((k - 1 - u : Nat) : Int) := by omega
  refine ⟨k - 1 - u, rfl, IntWalk.i64_in _ (by omega), ?_, IntWalk.wrap64_in _ (by omega), ?_, by omega, by omega, by omega, IntWalk.i64_in _ (by omega)⟩
  · rw [h1]; exact IntWalk.i64_in _ (by omega)
  · rw [h1]; exact IntWalk.wrap64_in _ (by omega)
set_option maxHeartbeats 4000000 in
theorem sThickOrder_any (g o n c : Nat) (xs : List DCard) (sh : Int) (w : World) (hl : xs.length = n) (hm : n ≤ 1048576) (hms : ∀ i, i < n → (xs.getD i default).modest) (hR : LC w g o n xs) :
    Calls Try.prog 19 #[.slice (some ⟨g, o, none⟩) n c, .int .i64 sh] w (GetL (thR xs sh) w) := by
  have HL := Lib.hid hl
  have HR := Lib.hid hR
  have HM := Lib.hid hms
  clear hR hms
  cases hb : bookB xs sh
  · have HBK := Lib.hid hb
    have HV : Hid (thR xs sh = []) := Lib.hid (by unfold thR; rw [hb]; rfl)
    clear hb hl
    go_enter Try.func19, Try.ntmps19
    go_wp2_with (go_at_call 43; refine (l22Sizes_no _ _ _ _ xs _ _ HL.out hm HM.out HR.out HBK.out).mono ?_; rintro e w1 ⟨a, c', rfl, hb1⟩; have HB1 := Lib.hid hb1; clear hb1)
    go_ret
    exact GetL.nil HV.out (HB1.out.alloc HB1.out.size _) _ _
  · have HBK := Lib.hid hb
    obtain ⟨h20, hok⟩ := bookB_iff.1 hb
    rw [hl] at h20
    have HV : Hid (thR xs sh = nl (zgF (ordF (tcN xs sh) n) n) n) := Lib.hid (by unfold thR thO; rw [if_pos hb, hl])
    have HK : Hid (∀ i, ic (tl xs sh n) i = .int .i64 (((tl xs sh n).getD i 0))) := Lib.hid (fun i => rfl)
    clear hb hl hok
    go_enter Try.func19, Try.ntmps19
    go_wp2_with (go_at_call 43; refine (l22Sizes_yes _ _ _ _ xs _ _ HL.out hm HM.out HR.out HBK.out).mono ?_; rintro e w1 ⟨a, c', rfl, hr, hb1⟩; have HR1 := Lib.hid hr.1; have HB1 := Lib.hid hb1; clear hr hb1)
    clear HR HM HBK
    generalize hkk : tcN xs sh = key at *
    have HZ : Hid (∀ i, zc xs sh i = .int .i64 (key i)) := Lib.hid (fun i => by unfold zc; rw [hkk])
    clear hkk
    have hA1 := Below.box w1 (.cells #[] 3 (0, 0))
    have hA2 := Below.box (w1.alloc (.cells #[] 3 (0, 0))) (.cells #[] 3 (0, 0))
    have hz1 : (w1.alloc (.cells #[] 3 (0, 0))).heap.size = w1.heap.size + 1 := by simp
    have hz2 : ((w1.alloc (.cells #[] 3 (0, 0))).alloc (.cells #[] 3 (0, 0))).heap.size = w1.heap.size + 2 := by simp
    have O7 := ((Own1.empty w1 3).alloc (.cells #[] 3 (0, 0)))
    have O8 := Own1.empty (w1.alloc (.cells #[] 3 (0, 0))) 3
    rw [hz1] at O8
    have HRW : Hid (SlR ((w1.alloc (.cells #[] 3 (0, 0))).alloc (.cells #[] 3 (0, 0))) a n (zc xs sh)) := Lib.hid ((HR1.out.below hA1).below hA2)
    have HBW : Hid (Below w.heap.size w ((w1.alloc (.cells #[] 3 (0, 0))).alloc (.cells #[] 3 (0, 0)))) := Lib.hid (HB1.out.trans ((hA1.trans (hA2.mono (by omega))).mono HB1.out.size))
    have HLB := Lib.hid HB1.out.size
    have HAL : Hid (∀ ga, a = some ⟨ga, 0, none⟩ → 0 < n → ga < w1.heap.size) := Lib.hid (fun ga hga h0 => by
      obtain ⟨gb, hgb, hr⟩ := HR1.out.row h0
      rw [hga] at hgb
      simp only [Option.some.injEq, Addr.mk.injEq, and_true] at hgb
      subst hgb
      exact hr.lt)
    have HO7 := Lib.hid O7
    have HO8 := Lib.hid O8
    clear O7 O8 hA1 hA2 HR1 HB1 hz1
    go_wp2
    generalize (w1.alloc (.cells #[] 3 (0, 0))).alloc (.cells #[] 3 (0, 0)) = W at *
    generalize w1.heap.size = B at *
    go_loopw [8, 9] (fun v i wr => ∃ (k g1 c1 : Nat), k ≤ n ∧ i = .int .i64 k ∧ v = .slice (some ⟨g1, 0, none⟩) k c1 ∧ Own1 wr (B + 1) 3 g1 k c1 (vl (ordF key k) k) ∧ Below (B + 1) W wr) (fun _ i _ => n - (intOf i).toNat)
    case atStart => exact ⟨0, _, 0, Nat.zero_le _, rfl, rfl, HO8.out, Below.refl _ _⟩
    case round =>
      clear HO8
      obtain ⟨k, g1, c1, hk, rfl, rfl, h1, hB⟩ := hrel
      have H1 := Lib.hid h1
      have HB := Lib.hid hB
      have hg1 := h1.lt
      have hsz := hB.size
      clear h1 hB
      by_cases hlt : k < n
      · obtain ⟨ga, rfl, hrw⟩ := HRW.out.row (by omega)
        have hga := HAL.out ga rfl (by omega)
        have HRA : Hid (Row wr ga n (fun i => .int .i64 (key i))) := Lib.hid ((hrw.below HB.out (by omega)).congr fun i _ => HZ.out i)
        clear hrw
        have HTOP := Lib.hid (ordF_hi key k)
        have HSUC : Hid (ordF key (k + 1) = insF (ordF key k) (iposF key (ordF key k) k k) k) := Lib.hid rfl
        have HLT := Lib.hid (ordF_lt key k)
        generalize ordF key k = L at *
        obtain ⟨m, hm1⟩ : ∃ m, m = k + 1 := ⟨_, rfl⟩
        have HM1 := Lib.hid hm1
        have hmk : k < m := by omega
        clear hm1
        go_wp2_with (at_builtin; refine append_one rfl _ _ 27 rfl Try.underlying27 infoInt rfl (by omega) rfl (H1.out.alloc _) (by omega) rfl (new_cell (by simp)) rfl ?_; intro g' c'' w3 o3 oo3 l3; have O3 := Lib.hid o3; have OO3 := Lib.hid oo3; clear o3 oo3 l3)
        rw [← HM1.out]
        have HX3 : Hid (Own1 w3 (B + 1) 3 g' m c'' (vl (shfF L k k) m)) := Lib.hid (by
          have := O3.out
          rw [← HM1.out] at this
          rw [HM1.out, vl_congr (fun i _ => shfF_top HTOP.out), vl_succ, HTOP.out k (Nat.le_refl _)]
          rw [HM1.out] at this
          exact this)
        have HB3 : Hid (Below (B + 1) W w3) := Lib.hid (HB.out.trans (((Below.box wr (.cells #[.int .i64 (k : Int)] 3 (0, 0))).mono (by omega)).trans (OO3.out.toBelow hg1.1 (by simp; omega))))
        have HRB : Hid (Row w3 ga n (fun i => .int .i64 (key i))) := Lib.hid (OO3.out.row (HRA.out.alloc _) (by omega))
        have hg3 := HX3.out.lt
        clear O3 OO3 HRA H1 HB
        go_loopw [10] (fun at_ wi => ∃ j : Nat, j ≤ k ∧ at_ = .int .i64 j ∧ Own1 wi (B + 1) 3 g' m c'' (vl (shfF L j k) m) ∧ OnlyB g' w3 wi ∧ iposF key L k j = iposF key L k k) (fun at_ _ => (intOf at_).toNat)
        case atStart => exact ⟨k, Nat.le_refl _, rfl, HX3.out, OnlyB.refl _ _, rfl⟩
        case round =>
          clear HX3
          obtain ⟨j, hj, rfl, hX, hO, hI⟩ := hrel
          have HX := Lib.hid hX
          have HO := Lib.hid hO
          have HI := Lib.hid hI
          have HRI := Lib.hid (hO.row HRB.out (by omega))
          have ck := HRI.out.cell hlt
          have fj := hX.frozen j
          have cj := hX.vcell (i := j) (by omega)
          generalize shfF L j k j = vj at cj
          have j2 : (j : Int) < (m : Int) := by omega
          have j3 : (0 : Int) ≤ (j : Int) := by omega
          have k2 : (k : Int) < (n : Int) := by omega
          have k3 : (0 : Int) ≤ (k : Int) := by omega
          clear hX hO hI
          by_cases h0 : j = 0
          · have HFIN : Hid (insF L j k = ordF key m) := Lib.hid (by
              rw [HM1.out, HSUC.out, ← HI.out, h0]; rfl)
            have t0 : decide ((j : Int) > 0) = false := decide_eq_false (by omega)
            have t1 : decide (0 < j) = false := decide_eq_false (by omega)
            clear h0
            go_wp2_with fail
            go_quiet (fail)
            have HXd : Hid (Own1 (wr.drewN nq) (B + 1) 3 g' m c'' (vl (shfF L j k) m)) := Lib.hid (HX.out.heap rfl)
            have HOd : Hid (OnlyB g' w3 (wr.drewN nq)) := Lib.hid ⟨HO.out.os, HO.out.tape, HO.out.output, HO.out.size, HO.out.block⟩
            go_wp2
            go_roundw
            case rel => exact ⟨m, g', c'', by have := HM1.out; omega, by rw [HM1.out]; go_num, rfl, by rw [← HFIN.out, ← vl_congr (fun i _ => shfF_set i), ← vl_set]; exact HXd.out.set _ _, HB3.out.trans ((HOd.out.set j _).toBelow hg3.1 (by omega))⟩
            case measure => simp [intOf]; omega
          · obtain ⟨p, hp⟩ : ∃ p, j = p + 1 := ⟨j - 1, by omega⟩
            have HP := Lib.hid hp
            have hpm : p < m := by omega
            have hpj : p < j := by omega
            have hpk : p < k := by omega
            have e2 : IntKind.i64.wrap ((j : Int) - 1) = (p : Int) := by rw [show (j : Int) - 1 = (p : Int) by omega]; exact IntWalk.i64_in _ (by omega)
            have p2 : (p : Int) < (m : Int) := by omega
            have p3 : (0 : Int) ≤ (p : Int) := by omega
            have t0 : decide ((j : Int) > 0) = true := decide_eq_true (by omega)
            have t1 : decide (0 < j) = true := decide_eq_true (by omega)
            have cp := HX.out.vcell hpm
            rw [shfF_lo (by omega)] at cp
            have hq := HLT.out p hpk
            have HMV : Hid (∀ i, (if i = j then L p else shfF L j k i) = shfF L p k i) := Lib.hid (fun i => by rw [hp]; exact shfF_move hpk i)
            have HGO := Lib.hid (iposF_go (key := key) (L := L) (k := k) (j := p))
            have HST := Lib.hid (iposF_stop (key := key) (L := L) (k := k) (j := p))
            generalize L p = q at *
            have q2 : (q : Int) < (n : Int) := by omega
            have q3 : (0 : Int) ≤ (q : Int) := by omega
            have cq := HRI.out.cell (i := q) (by omega)
            clear hp h0
            by_cases hkq : key q < key k
            · have t2 : decide (key q < key k) = true := decide_eq_true hkq
              have HIN : Hid (iposF key L k p = iposF key L k k) := Lib.hid (by rw [← HI.out, HP.out]; exact (HGO.out hkq).symm)
              clear hkq
              generalize key q = kq at *
              generalize hkc : key k = kc at *
              clear hkc
              go_wp2_with fail
              go_quiet (fail)
              have HXd : Hid (Own1 (wr.drewN nq) (B + 1) 3 g' m c'' (vl (shfF L j k) m)) := Lib.hid (HX.out.heap rfl)
              have HOd : Hid (OnlyB g' w3 (wr.drewN nq)) := Lib.hid ⟨HO.out.os, HO.out.tape, HO.out.output, HO.out.size, HO.out.block⟩
              go_wp2
              go_roundw
              case rel => exact ⟨p, by omega, rfl, by rw [← vl_congr (fun i _ => HMV.out i), ← vl_set]; exact HXd.out.set _ _, HOd.out.set j _, HIN.out⟩
              case measure => simp [intOf, e2]; omega
            · have t2 : decide (key q < key k) = false := decide_eq_false hkq
              have HFIN : Hid (insF L j k = ordF key m) := Lib.hid (by
                rw [HM1.out, HSUC.out, ← HI.out, HP.out, HST.out hkq])
              clear hkq
              generalize key q = kq at *
              generalize hkc : key k = kc at *
              clear hkc
              go_wp2_with fail
              go_quiet (fail)
              have HXd : Hid (Own1 (wr.drewN nq) (B + 1) 3 g' m c'' (vl (shfF L j k) m)) := Lib.hid (HX.out.heap rfl)
              have HOd : Hid (OnlyB g' w3 (wr.drewN nq)) := Lib.hid ⟨HO.out.os, HO.out.tape, HO.out.output, HO.out.size, HO.out.block⟩
              go_wp2
              go_roundw
              case rel => exact ⟨m, g', c'', by have := HM1.out; omega, by rw [HM1.out]; go_num, rfl, by rw [← HFIN.out, ← vl_congr (fun i _ => shfF_set i), ← vl_set]; exact HXd.out.set _ _, HB3.out.trans ((HOd.out.set j _).toBelow hg3.1 (by omega))⟩
              case measure => simp [intOf]; omega
      · have hk' : k = n := by omega
        subst hk'
        have HO7' : Hid (Own1 wr B 3 B 0 0 []) := Lib.hid (HO7.out.heap (HB.out.block B (by omega)))
        have HBR : Hid (Below w.heap.size w wr) := Lib.hid (HBW.out.trans (HB.out.mono (by have := HLB.out; omega)))
        clear HO7 HB HRW HBW
        generalize hf : ordF key k = f at *
        go_wp2
        rename World => wo
        go_loopw [7, 11] (fun v i wr => ∃ (t g7 c7 : Nat), t ≤ k ∧ i = .int .i64 t ∧ v = .slice (some ⟨g7, 0, none⟩) t c7 ∧ Own1 wr B 3 g7 t c7 (vl (zgF f k) t) ∧ Own1 wr (B + 1) 3 g1 k c1 (vl f k) ∧ g7 ≠ g1 ∧ Below w.heap.size w wr) (fun _ i _ => k - (intOf i).toNat)
        case atStart => exact ⟨0, B, 0, Nat.zero_le _, rfl, rfl, HO7'.out, H1.out, by omega, HBR.out⟩
        case round =>
          clear HO7' HBR H1
          obtain ⟨t, g7, c7, ht, rfl, rfl, h7, h8, hne, hB⟩ := hrel
          have H7 := Lib.hid h7
          have H8 := Lib.hid h8
          have HB := Lib.hid hB
          have hg7 := h7.lt
          have hg8 := h8.lt
          clear h7 h8 hB
          by_cases hlt : t < k
          · obtain ⟨u, hu⟩ : ∃ u, u = t / 2 := ⟨_, rfl⟩
            have HU := Lib.hid hu
            have e1 : (t : Int).tdiv 2 = (u : Int) := by rw [Int.tdiv_eq_ediv_of_nonneg (by omega)]; omega
            have u2 : (0 : Int) ≤ (u : Int) := by omega
            have e8 : IntKind.i64.wrap (u : Int) = (u : Int) := (zg_odd hlt h20 hu).elim fun _ h => h.2.2.2.2.2.2.2.2
            have i0 : (0 : Int) ≤ (t : Int) := by omega
            by_cases hev : t % 2 = 0
            · have e3 : (t : Int).tmod 2 = 0 := by rw [Int.tmod_eq_emod_of_nonneg (by omega)]; omega
              have HZG : Hid (zgF f k t = f u) := Lib.hid (by unfold zgF; rw [if_pos hev, hu])
              have u1 : (u : Int) < (k : Int) := by omega
              have cu := H8.out.vcell (i := u) (by omega)
              have HSU := Lib.hid (vl_succ (zgF f k) t)
              clear hev hu
              generalize f u = q at *
              go_wp2_with (at_builtin; refine append_one rfl _ _ 27 rfl Try.underlying27 infoInt rfl (by omega) rfl (H7.out.alloc _) (by omega) rfl (new_cell (by simp)) rfl ?_; intro g' c'' w3 o3 oo3 l3; have O3 := Lib.hid o3; have OO3 := Lib.hid oo3; have L3 := Lib.hid l3; clear o3 oo3 l3)
              go_roundw
              case rel =>
                refine ⟨t + 1, g', c'', by omega, by go_num, rfl, by rw [HSU.out, HZG.out]; exact O3.out, (H8.out.alloc _).keep OO3.out (by omega), ?_, HB.out.trans (((Below.box _ _).mono HB.out.size).trans (OO3.out.toBelow (by have := HLB.out; omega) (by have := HB.out.size; simp; omega)))⟩
                rcases L3.out with h | h
                · omega
                · simp at h; omega
              case measure => simp [intOf]; omega
            · have e3 : (t : Int).tmod 2 = 1 := by rw [Int.tmod_eq_emod_of_nonneg (by omega)]; omega
              obtain ⟨u', hu', e4, e5, e6, e7, u1, u3, u4, _⟩ := zg_odd hlt h20 hu
              have HZG : Hid (zgF f k t = f u') := Lib.hid (by unfold zgF; rw [if_neg hev, hu', hu])
              have cu := H8.out.vcell (i := u') u4
              have HSU := Lib.hid (vl_succ (zgF f k) t)
              clear hev hu hu'
              generalize f u' = q at *
              go_wp2_with (at_builtin; refine append_one rfl _ _ 27 rfl Try.underlying27 infoInt rfl (by omega) rfl (H7.out.alloc _) (by omega) rfl (new_cell (by simp)) rfl ?_; intro g' c'' w3 o3 oo3 l3; have O3 := Lib.hid o3; have OO3 := Lib.hid oo3; have L3 := Lib.hid l3; clear o3 oo3 l3)
              go_roundw
              case rel =>
                refine ⟨t + 1, g', c'', by omega, by go_num, rfl, by rw [HSU.out, HZG.out]; exact O3.out, (H8.out.alloc _).keep OO3.out (by omega), ?_, HB.out.trans (((Below.box _ _).mono HB.out.size).trans (OO3.out.toBelow (by have := HLB.out; omega) (by have := HB.out.size; simp; omega)))⟩
                rcases L3.out with h | h
                · omega
                · simp at h; omega
              case measure => simp [intOf]; omega
          · have ht' : t = k := by omega
            subst ht'
            go_wp2
            go_ret
            exact GetL.own (by rw [HV.out]; exact H7.out) HLB.out HB.out
end Go.Proofs.Ytjkcmjnejbobeaa
