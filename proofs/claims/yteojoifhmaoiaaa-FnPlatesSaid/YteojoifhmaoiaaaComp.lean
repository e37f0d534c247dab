/-
  slices.CompactFunc at a sorted list of pairs that the call has built: of equal pairs in a row the first is kept.
  By an AI agent.
-/
import Derived.Test.YteojoifhmaoiaaaSortP
import Derived.Test.YteojoifhmaoiaaaFace
import Derived.Lib.SliceRun
namespace Go.Proofs.Yteojoifhmaoiaaa
open Go.ChangeShapes Go.WideShapes Go.ChangeAt Go.RowKit
set_option maxRecDepth 100000
set_option linter.unusedVariables false

section
variable (r0 r1 : Nat → Int)
def keepP (j : Nat) : Prop := j = 0 ∨ ¬ (r0 j = r0 (j - 1) ∧ r1 j = r1 (j - 1))
instance (j : Nat) : Decidable (keepP r0 r1 j) := by unfold keepP; infer_instance
def kpI : Nat → List Nat
  | 0 => []
  | j + 1 => kpI j ++ if keepP r0 r1 j then [j] else []
theorem kpI_yes {j : Nat} (h : keepP r0 r1 j) : kpI r0 r1 (j + 1) = kpI r0 r1 j ++ [j] := by show kpI r0 r1 j ++ _ = _; rw [if_pos h]
theorem kpI_no {j : Nat} (h : ¬ keepP r0 r1 j) : kpI r0 r1 (j + 1) = kpI r0 r1 j := by show kpI r0 r1 j ++ _ = _; rw [if_neg h, List.append_nil]
theorem kpI_len : ∀ j, (kpI r0 r1 j).length ≤ j := by
  intro j
  induction j with
  | zero => exact Nat.le_refl _
  | succ j ih =>
    by_cases h : keepP r0 r1 j
    · rw [kpI_yes r0 r1 h, List.length_append, List.length_singleton]; omega
    · rw [kpI_no r0 r1 h]; omega
theorem kpI_lt : ∀ j x, x ∈ kpI r0 r1 j → x < j := by
  intro j
  induction j with
  | zero => intro x h; simp [kpI] at h
  | succ j ih =>
    intro x hx
    by_cases h : keepP r0 r1 j
    · rw [kpI_yes r0 r1 h, List.mem_append, List.mem_singleton] at hx
      rcases hx with hx | hx
      · have := ih x hx; omega
      · omega
    · rw [kpI_no r0 r1 h] at hx
      have := ih x hx; omega
theorem kpI_up : ∀ j, (kpI r0 r1 j).Pairwise (· < ·) := by
  intro j
  induction j with
  | zero => exact .nil
  | succ j ih =>
    by_cases h : keepP r0 r1 j
    · rw [kpI_yes r0 r1 h, List.pairwise_append]
      refine ⟨ih, by simp, fun a ha b hb => ?_⟩
      rw [List.mem_singleton] at hb
      subst hb
      exact kpI_lt r0 r1 _ a ha
    · rw [kpI_no r0 r1 h]; exact ih
end
/-- What the block holds when j pairs have been looked at. -/
def cont (A : Nat → Nat) (L : Rows) (ks : List Nat) : List Value := (List.range L.length).map (fun i => if i < ks.length then crow A L (ks.getD i 0) else crow A L i)
theorem cont_get {A : Nat → Nat} {L : Rows} {ks : List Nat} {i : Nat} (h : i < L.length) (hk : ks.length ≤ i) : (cont A L ks).getD i undef = crow A L i := by
  unfold cont
  simp [List.getD, h, show ¬ i < ks.length by omega]
theorem cont_set {A : Nat → Nat} {L : Rows} {ks : List Nat} {j : Nat} : (cont A L ks).set ks.length (crow A L j) = cont A L (ks ++ [j]) := by
  apply List.ext_getElem
  · simp [cont]
  · intro i h1 h2
    simp only [List.getElem_set]
    unfold cont
    by_cases e : ks.length = i
    · subst e
      simp [List.getD]
    · rw [if_neg e]
      simp only [List.getElem_map, List.getElem_range, List.length_append, List.length_singleton]
      by_cases h3 : i < ks.length
      · rw [if_pos h3, if_pos (by omega)]
        congr 1
        simp [List.getD, List.getElem?_append, h3]
      · rw [if_neg h3, if_neg (by omega)]
theorem cont_range {A : Nat → Nat} {L : Rows} {j : Nat} : cont A L (List.range j) = hdv A L := by
  unfold cont hdv
  refine List.map_congr_left fun i hi => ?_
  rw [List.length_range]
  by_cases h : i < j
  · rw [if_pos h]
    congr 1
    simp [List.getD, h]
  · rw [if_neg h]
theorem Own1.cut {w : World} {B : Nat} {e : TypeId} {g n c k : Nat} {xs : List Value} (h : Own1 w B e g n c xs) (hk : k ≤ n) : Own1 w B e g k c (xs.take k) := by
  have hl := h.len
  refine ⟨by rw [List.length_take]; omega, ?_⟩
  rcases h.2 with ⟨h1, _⟩ | ⟨g', cap, cur, hv, hb, hg, hn, hm, hs, ht⟩
  · cases h1
  · cases hv
    refine .inr ⟨g, c, cur, rfl, hb, hg, by omega, hm, hs, ?_⟩
    rw [← ht, List.take_take]
    congr 1
    omega
theorem Own1.setCells {B : Nat} {e : TypeId} {g n c : Nat} : ∀ (vs : List Value) (o : Nat) (w : World) (xs : List Value), Own1 w B e g n c xs → ∃ xs', Own1 (w.setCells g o vs) B e g n c xs' ∧ xs'.take o = xs.take o := by
  intro vs
  induction vs with
  | nil => intro o w xs h; exact ⟨xs, h, rfl⟩
  | cons v r ih =>
    intro o w xs h
    obtain ⟨xs', h1, h2⟩ := ih (o + 1) (w.setCell ⟨g, o, none⟩ v) (xs.set o v) (h.set o v)
    refine ⟨xs', h1, ?_⟩
    have h3 := congrArg (List.take o) h2
    rw [List.take_take, List.take_take, Nat.min_eq_left (by omega)] at h3
    rw [h3, List.take_set_of_le (Nat.le_refl _)]
theorem OnlyB.setCells {g : Nat} : ∀ (vs : List Value) (o : Nat) (w0 w : World), OnlyB g w0 w → OnlyB g w0 (w.setCells g o vs) := by
  intro vs
  induction vs with
  | nil => intro o w0 w h; exact h
  | cons v r ih => intro o w0 w h; exact ih (o + 1) w0 _ (h.set o v)
theorem slEqual_is {v : Bool} (gx gy : Nat) (x0 x1 y0 y1 : Int) (w : World) (hv : (decide (x0 = y0) && decide (x1 = y1)) = v) (hx : Row w gx 2 (ic [x0, x1])) (hy : Row w gy 2 (ic [y0, y1])) :
    Calls Try.prog 46 #[.slice (some ⟨gx, 0, none⟩) 2 2, .slice (some ⟨gy, 0, none⟩) 2 2] w fun e w' => e = .returned (.bool v) ∧ ∃ m, w' = w.drewN m := hv ▸ slEqual_any gx gy x0 x1 y0 y1 w hx hy
theorem comp_bld {w w' : World} {lo go cp : Nat} {L : Rows} {A : Nat → Nat} {ks : List Nat} (h : Bld w lo go cp L A) (ho : OnlyB go w w') (hks : ∀ x, x ∈ ks → x < L.length) (hup : ks.Pairwise (· < ·)) (hlen : ks.length ≤ L.length)
    (hown : Own1 w' lo 28 go ks.length cp ((cont A L ks).take ks.length)) : Bld w' lo go cp (ks.map (rowN L)) (fun i => A (ks.getD i 0)) := by
  have hrw : ∀ i (hi : i < ks.length), rowN (ks.map (rowN L)) i = rowN L (ks.getD i 0) := fun i hi => by
    unfold rowN
    simp [List.getD, hi]
  have hget : ∀ i (hi : i < ks.length), ks.getD i 0 = ks[i] := fun i hi => by simp [List.getD, hi]
  have hlt : ∀ i, i < ks.length → ks.getD i 0 < L.length := fun i hi => hks _ (by rw [hget i hi]; exact List.getElem_mem hi)
  refine ⟨?_, fun i hi => ?_⟩
  · have : (cont A L ks).take ks.length = hdv (fun i => A (ks.getD i 0)) (ks.map (rowN L)) := by
      apply List.ext_getElem
      · simp [cont, hdv]; omega
      · intro i h1 h2
        have hi : i < ks.length := by simp [hdv] at h2; exact h2
        have h3 := hrw i hi
        simp only [List.getElem_take, cont, hdv, List.getElem_map, List.getElem_range]
        rw [if_pos hi]
        unfold crow lenN
        dsimp only
        rw [h3]
    rw [← this, List.length_map]
    exact hown
  · rw [List.length_map] at hi
    obtain ⟨⟨b1, b2, b3, b4⟩, b5⟩ := h.rows _ (hlt i hi)
    refine ⟨⟨b1, Nat.lt_of_lt_of_le b2 ho.size, b3, fun j hj => ?_⟩, ?_⟩
    · refine b4 _ ?_
      rw [hget j (by omega), hget i hi]
      exact List.pairwise_iff_getElem.1 hup j i (by omega) hi hj
    · unfold lenN at b5 ⊢
      rw [hrw i hi]
      exact ho.row b5 b3
theorem zeroRow (w : World) : (zeroValue 28).run Try.prog w = .ok (.slice none 0 0) w := by
  have := infoRowB
  rfl
set_option maxHeartbeats 8000000 in
theorem compactPairs (lo go cp : Nat) (L : Rows) (A : Nat → Nat) (r0 r1 : Nat → Int) (w : World) (h : Bld w lo go cp L A) (hr : ∀ i, i < L.length → rowN L i = [r0 i, r1 i]) (hn : L.length ≤ 100000) :
    Calls Try.prog 45 #[.slice (some ⟨go, 0, none⟩) L.length cp, .func (.func 46) #[] #[]] w fun e w' =>
      e = .returned (.slice (some ⟨go, 0, none⟩) (kpI r0 r1 L.length).length cp) ∧ OnlyB go w w' ∧ ∃ A', Bld w' lo go cp ((kpI r0 r1 L.length).map (rowN L)) A' := by
  have HB := Lib.hid h
  have HR : Hid (∀ i, i < L.length → crow A L i = .slice (some ⟨A i, 0, none⟩) 2 2) := Lib.hid (fun i hi => by unfold crow lenN; rw [hr i hi]; rfl)
  have HRR : Hid (∀ w1, OnlyB go w w1 → ∀ i, i < L.length → Row w1 (A i) 2 (ic [r0 i, r1 i])) := Lib.hid (fun w1 ho i hi => by
    have h1 := (h.rows i hi)
    have h2 := ho.row h1.2 h1.1.2.2.1
    unfold lenN at h2
    rw [hr i hi] at h2
    exact h2)
  have HLEN := Lib.hid (kpI_len r0 r1)
  have hcp : L.length ≤ cp := by
    rcases h.own.2 with ⟨h1, _⟩ | ⟨g', cap, cur, hv, hb, hg, hn, _⟩
    · cases h1
    · cases hv; exact hn
  have HFIN : Hid (∀ w1 ks, ks = kpI r0 r1 L.length → OnlyB go w w1 → Own1 w1 lo 28 go ks.length cp ((cont A L ks).take ks.length) → ∃ A', Bld w1 lo go cp ((kpI r0 r1 L.length).map (rowN L)) A') := Lib.hid (fun w1 ks hk ho hw => by
    subst hk
    exact ⟨_, comp_bld h ho (kpI_lt r0 r1 _) (kpI_up r0 r1 _) (kpI_len r0 r1 _) hw⟩)
  have HOWN := Lib.hid h.own
  have HSELF : Hid ((hdv A L).take L.length = hdv A L) := Lib.hid (List.take_of_length_le (by simp [hdv]))
  clear h hr
  generalize hN : L.length = n at *
  have HN := Lib.hid hN
  clear hN
  go_enter Try.func45, Try.ntmps45
  by_cases h2 : n < 2
  · have h2i : (n : Int) < 2 := by omega
    have HK : Hid (kpI r0 r1 n = List.range n) := Lib.hid (by
      have h3 : n = 0 ∨ n = 1 := by omega
      rcases h3 with rfl | rfl
      · rfl
      · rw [kpI_yes r0 r1 (Or.inl rfl)]; rfl)
    clear h2
    go_wp2
    go_ret
    rw [HK.out, List.length_range]
    refine ⟨rfl, OnlyB.refl _ _, ?_⟩
    rw [← HK.out]
    refine HFIN.out w (kpI r0 r1 n) rfl (OnlyB.refl _ _) ?_
    rw [HK.out, List.length_range, cont_range, HSELF.out]
    exact HOWN.out
  · have h2i : ¬ (n : Int) < 2 := by omega
    go_wp2
    go_loopw [5] (fun x wr => ∃ k : Nat, 1 ≤ k ∧ k ≤ n ∧ x = .int .i64 k ∧ kpI r0 r1 k = List.range k ∧ Own1 wr lo 28 go n cp (hdv A L) ∧ OnlyB go w wr) (fun x _ => n - (intOf x).toNat)
    case atStart => exact ⟨1, Nat.le_refl _, by omega, rfl, by rw [kpI_yes r0 r1 (Or.inl rfl)]; rfl, HOWN.out, OnlyB.refl _ _⟩
    case round =>
      obtain ⟨k, hk1, hk, rfl, h3, h4, h5⟩ := hrel
      rename World => wr
      have H3 := Lib.hid h3
      have H4 := Lib.hid h4
      have H5 := Lib.hid h5
      clear h3 h4 h5
      by_cases hlt : k < n
      · obtain ⟨kp, hkp⟩ : ∃ kp, kp = k - 1 := ⟨_, rfl⟩
        have HKP := Lib.hid hkp
        have hkp1 : kp < n := by omega
        have ck := H4.out.row.cell hlt
        have cp' := H4.out.row.cell hkp1
        rw [show (hdv A L).getD k undef = .slice (some ⟨A k, 0, none⟩) 2 2 from by rw [← HR.out k hlt]; unfold hdv; rw [HN.out]; simp [List.getD, hlt]] at ck
        rw [show (hdv A L).getD kp undef = .slice (some ⟨A kp, 0, none⟩) 2 2 from by rw [← HR.out kp hkp1]; unfold hdv; rw [HN.out]; simp [List.getD, hkp1]] at cp'
        have e2 : IntKind.i64.wrap ((k : Int) - 1) = (kp : Int) := by rw [show (k : Int) - 1 = (kp : Int) by omega]; exact IntWalk.i64_in _ (by omega)
        have i0 : (0 : Int) ≤ (k : Int) := Int.natCast_nonneg _
        have i1 : (k : Int) < (n : Int) := by omega
        have i2 : (0 : Int) ≤ (kp : Int) := Int.natCast_nonneg _
        have i3 : (kp : Int) < (n : Int) := by omega
        have HX : Hid (∀ m, Row (wr.drewN m) (A k) 2 (ic [r0 k, r1 k]) ∧ Row (wr.drewN m) (A kp) 2 (ic [r0 kp, r1 kp])) := Lib.hid (fun m => ⟨(HRR.out wr H5.out k hlt).of_heap rfl, (HRR.out wr H5.out kp hkp1).of_heap rfl⟩)
        clear hkp
        by_cases hkeep : keepP r0 r1 k
        · have HV : Hid ((decide (r0 k = r0 kp) && decide (r1 k = r1 kp)) = false) := Lib.hid (by
            rcases hkeep with h0 | h0
            · omega
            · rw [← HKP.out] at h0
              rw [Bool.and_eq_false_iff]
              by_cases e : r0 k = r0 kp
              · exact .inr (decide_eq_false (fun e1 => h0 ⟨e, e1⟩))
              · exact .inl (decide_eq_false e))
          have HNX : Hid (kpI r0 r1 (k + 1) = List.range (k + 1)) := Lib.hid (by rw [kpI_yes r0 r1 hkeep, H3.out, List.range_succ])
          clear hkeep
          go_wp2
          go_quiet ((go_at_call 46; exact quiet_more (slEqual_is (A k) (A kp) _ _ _ _ _ HV.out (HX.out _).1 (HX.out _).2)))
          go_wp2
          go_roundw
          case rel => exact ⟨k + 1, by omega, by omega, by go_num, HNX.out, H4.out.heap rfl, ⟨H5.out.os, H5.out.tape, H5.out.output, H5.out.size, H5.out.block⟩⟩
          case measure => simp [intOf]; omega
        · have HV : Hid ((decide (r0 k = r0 kp) && decide (r1 k = r1 kp)) = true) := Lib.hid (by
            have h0 : r0 k = r0 (k - 1) ∧ r1 k = r1 (k - 1) := Classical.not_not.1 (fun h => hkeep (.inr h))
            rw [HKP.out, decide_eq_true h0.1, decide_eq_true h0.2]; rfl)
          have HNX : Hid (kpI r0 r1 (k + 1) = List.range k) := Lib.hid (by rw [kpI_no r0 r1 hkeep, H3.out])
          clear hkeep
          go_wp2
          go_quiet ((go_at_call 46; exact quiet_more (slEqual_is (A k) (A kp) _ _ _ _ _ HV.out (HX.out _).1 (HX.out _).2)))
          go_wp2
          have hSZ : (kpI r0 r1 (k + 1)).length = k := by rw [HNX.out, List.length_range]
          have HSZ := Lib.hid hSZ
          have H4' : Hid (Own1 (wr.drewN nq) lo 28 go n cp (cont A L (kpI r0 r1 (k + 1)))) := Lib.hid (by rw [HNX.out, cont_range]; exact H4.out.heap rfl)
          have H5' : Hid (OnlyB go w (wr.drewN nq)) := Lib.hid ⟨H5.out.os, H5.out.tape, H5.out.output, H5.out.size, H5.out.block⟩
          clear hSZ ck cp' HV HX H4 H5 H3
          generalize wr.drewN nq = ws at *
          go_loopw [5, 7] (fun v5 v7 wi => ∃ k2 : Nat, 1 ≤ k2 ∧ k2 ≤ n - k ∧ v7 = .int .i64 k2 ∧ v5 = .int .i64 (kpI r0 r1 (k + k2)).length ∧ (kpI r0 r1 (k + k2)).length + 1 ≤ k + k2 ∧ Own1 wi lo 28 go n cp (cont A L (kpI r0 r1 (k + k2))) ∧ OnlyB go w wi) (fun _ v7 _ => n - k - (intOf v7).toNat)
          case atStart => exact ⟨1, Nat.le_refl _, by omega, rfl, by rw [HSZ.out], by rw [HSZ.out]; exact Nat.le_refl _, H4'.out, H5'.out⟩
          case round =>
            obtain ⟨k2, hk21, hk2, rfl, rfl, hK, h4, h5⟩ := hrel
            rename World => wi
            have J4 := Lib.hid h4
            have J5 := Lib.hid h5
            clear h4 h5
            by_cases hl2 : k2 < n - k
            · obtain ⟨p2, hp2⟩ : ∃ p2, p2 = k2 - 1 := ⟨_, rfl⟩
              have HP2 := Lib.hid hp2
              have hj : k + k2 < n := by omega
              have hjp : k + p2 < n := by omega
              have hKn : (kpI r0 r1 (k + k2)).length < n := by omega
              have hKp : (kpI r0 r1 (k + k2)).length ≤ k + p2 := by omega
              have cj := J4.out.row.cell hj
              have cjp := J4.out.row.cell hjp
              have ct := J4.out.row.cell hKn
              have ft := J4.out.frozen (kpI r0 r1 (k + k2)).length
              rw [cont_get (by rw [HN.out]; exact hj) (by omega), HR.out _ hj] at cj
              rw [cont_get (by rw [HN.out]; exact hjp) hKp, HR.out _ hjp] at cjp
              have e2 : IntKind.i64.wrap ((k2 : Int) - 1) = (p2 : Int) := by rw [show (k2 : Int) - 1 = (p2 : Int) by omega]; exact IntWalk.i64_in _ (by omega)
              have j0 : (0 : Int) ≤ (k2 : Int) := Int.natCast_nonneg _
              have j1 : (k2 : Int) < ((n - k : Nat) : Int) := by omega
              have j2 : (0 : Int) ≤ (p2 : Int) := Int.natCast_nonneg _
              have j3 : (p2 : Int) < ((n - k : Nat) : Int) := by omega
              have j4 : p2 < n - k := by omega
              have HX : Hid (∀ m, Row (wi.drewN m) (A (k + k2)) 2 (ic [r0 (k + k2), r1 (k + k2)]) ∧ Row (wi.drewN m) (A (k + p2)) 2 (ic [r0 (k + p2), r1 (k + p2)])) := Lib.hid (fun m => ⟨(HRR.out wi J5.out _ hj).of_heap rfl, (HRR.out wi J5.out _ hjp).of_heap rfl⟩)
              have HSETC : Hid ((cont A L (kpI r0 r1 (k + k2))).set (kpI r0 r1 (k + k2)).length (crow A L (k + k2)) = cont A L (kpI r0 r1 (k + k2) ++ [k + k2])) := Lib.hid cont_set
              have HCR := Lib.hid (HR.out _ hj)
              clear hp2
              by_cases hkeep : keepP r0 r1 (k + k2)
              · have HV : Hid ((decide (r0 (k + k2) = r0 (k + p2)) && decide (r1 (k + k2) = r1 (k + p2))) = false) := Lib.hid (by
                  rcases hkeep with h0 | h0
                  · omega
                  · rw [show k + k2 - 1 = k + p2 by have := HP2.out; omega] at h0
                    rw [Bool.and_eq_false_iff]
                    by_cases e : r0 (k + k2) = r0 (k + p2)
                    · exact .inr (decide_eq_false (fun e1 => h0 ⟨e, e1⟩))
                    · exact .inl (decide_eq_false e))
                have hnx := kpI_yes r0 r1 hkeep
                have HNX2 : Hid (kpI r0 r1 (k + (k2 + 1)) = kpI r0 r1 (k + k2) ++ [k + k2]) := Lib.hid hnx
                have HNL : Hid ((kpI r0 r1 (k + (k2 + 1))).length = (kpI r0 r1 (k + k2)).length + 1) := Lib.hid (by rw [HNX2.out, List.length_append]; rfl)
                clear hkeep hnx
                generalize kpI r0 r1 (k + k2) = ks at *
                go_wp2
                go_quiet ((go_at_call 46; exact quiet_more (slEqual_is (A (k + k2)) (A (k + p2)) _ _ _ _ _ HV.out (HX.out _).1 (HX.out _).2)))
                go_wp2
                have J4y : Hid (Own1 (wi.drewN nq) lo 28 go n cp (cont A L ks)) := Lib.hid (J4.out.heap rfl)
                have J5y : Hid (OnlyB go w (wi.drewN nq)) := Lib.hid ⟨J5.out.os, J5.out.tape, J5.out.output, J5.out.size, J5.out.block⟩
                go_roundw
                case rel => exact ⟨k2 + 1, by omega, by omega, by go_num, by rw [HNL.out]; go_num, by rw [HNL.out]; omega, by rw [HNX2.out, ← HSETC.out, HCR.out]; exact J4y.out.set _ _, J5y.out.set _ _⟩
                case measure => simp [intOf]; omega
              · have HV : Hid ((decide (r0 (k + k2) = r0 (k + p2)) && decide (r1 (k + k2) = r1 (k + p2))) = true) := Lib.hid (by
                  have h0 : r0 (k + k2) = r0 (k + k2 - 1) ∧ r1 (k + k2) = r1 (k + k2 - 1) := Classical.not_not.1 (fun h => hkeep (.inr h))
                  rw [show k + k2 - 1 = k + p2 by have := HP2.out; omega] at h0
                  rw [decide_eq_true h0.1, decide_eq_true h0.2]; rfl)
                have HNX2 : Hid (kpI r0 r1 (k + (k2 + 1)) = kpI r0 r1 (k + k2)) := Lib.hid (kpI_no r0 r1 hkeep)
                clear hkeep
                go_wp2
                go_quiet ((go_at_call 46; exact quiet_more (slEqual_is (A (k + k2)) (A (k + p2)) _ _ _ _ _ HV.out (HX.out _).1 (HX.out _).2)))
                go_wp2
                go_roundw
                case rel => exact ⟨k2 + 1, by omega, by omega, by go_num, by rw [HNX2.out], by rw [HNX2.out]; omega, by rw [HNX2.out]; exact J4.out.heap rfl, ⟨J5.out.os, J5.out.tape, J5.out.output, J5.out.size, J5.out.block⟩⟩
                case measure => simp [intOf]; omega
            · have hkn : k + k2 = n := by omega
              have HKN := Lib.hid hkn
              rw [hkn] at hK J4 ⊢
              have hl3 : ¬ (k2 : Int) < ((n - k : Nat) : Int) := by omega
              have hKn : (kpI r0 r1 n).length < n := by omega
              have hks : ∃ ks, ks = kpI r0 r1 n := ⟨_, rfl⟩
              obtain ⟨ks, hks⟩ := hks
              have HKS := Lib.hid hks
              rw [← hks] at hK J4 ⊢
              have hcl : ∀ ty, (Builtin.clear_ #[31] ty #[.slice (some ⟨go, ks.length, none⟩) (n - ks.length) (cp - ks.length)]).run Try.prog wi = .ok (.tuple #[]) (wi.setCells go ks.length (List.replicate (n - ks.length) (.slice none 0 0))) :=
                fun ty => Lib.run_clear_slice wi _ _ ty _ Try.underlying31 zeroRow rfl rfl go ks.length _ _ (by omega) (fun j hj => by rw [J4.out.row.cell (i := ks.length + j) (by omega)]; rfl) (fun j hj => J4.out.frozen _)
              have i4 : (0 : Int) ≤ (ks.length : Int) := Int.natCast_nonneg _
              have i5 : (ks.length : Int) ≤ (n : Int) := by omega
              have i6 : (ks.length : Int) ≤ (cp : Int) := by omega
              have i7 : ks.length ≤ n := by omega
              have i8 : ks.length ≤ cp := by omega
              obtain ⟨xs', hx1, hx2⟩ := Own1.setCells (List.replicate (n - ks.length) (.slice none 0 0)) ks.length wi _ J4.out
              have HC1 := Lib.hid (hx1.cut i7)
              have HX2 := Lib.hid hx2
              have HO2 := Lib.hid (OnlyB.setCells (List.replicate (n - ks.length) (.slice none 0 0)) ks.length w wi J5.out)
              clear hx1 hx2 hks
              go_wp2
              go_ret
              rw [← HKS.out]
              have hf := HFIN.out _ ks HKS.out HO2.out (by have := HC1.out; rw [HX2.out] at this; exact this)
              rw [← HKS.out] at hf
              exact ⟨rfl, HO2.out, hf⟩
      · have hk' : n = k := by omega
        subst hk'
        go_wp2
        go_ret
        rw [H3.out, List.length_range]
        refine ⟨rfl, H5.out, ?_⟩
        rw [← H3.out]
        refine HFIN.out _ (kpI r0 r1 n) rfl H5.out ?_
        rw [H3.out, List.length_range, cont_range, HSELF.out]
        exact H4.out
end Go.Proofs.Yteojoifhmaoiaaa
