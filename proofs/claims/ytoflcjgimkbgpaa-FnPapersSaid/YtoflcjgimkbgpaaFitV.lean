/-
  Contracts of FirstFit in the program and in the reference.
  By an AI agent.
-/
import Derived.Test.YtoflcjgimkbgpaaFit
import Derived.Test.YtoflcjgimkbgpaaOwn
import Derived.RegionTactic
import Derived.WalkSmall
namespace Go.Proofs.Ytoflcjgimkbgpaa
open Go.ChangeShapes Go.WideShapes Go.ChangeAt Go.RowKit
set_option maxRecDepth 100000
set_option linter.unusedVariables false

def ffOk (wd : Int) (rows : List Int) : Bool := decide (1 ≤ wd ∧ wd ≤ 1000 ∧ rows.length ≤ 30) && rows.all (fun z => decide (1 ≤ z ∧ z ≤ wd))
def ffR (wd : Int) (rows : List Int) : List Int := if ffOk wd rows = true then (ff wd rows rows.length).1 else []
theorem ffR_no {wd : Int} {rows : List Int} (h : ¬ (1 ≤ wd ∧ wd ≤ 1000 ∧ rows.length ≤ 30)) : ffR wd rows = [] := by
  unfold ffR ffOk; rw [decide_eq_false h]; rfl
theorem ffR_bad {wd : Int} {rows : List Int} {k : Nat} (hk : k < rows.length) (h : ¬ (1 ≤ rows.getD k 0 ∧ rows.getD k 0 ≤ wd)) : ffR wd rows = [] := by
  have : ¬ ffOk wd rows = true := by
    intro e
    unfold ffOk at e
    simp only [Bool.and_eq_true, List.all_eq_true] at e
    have := e.2 (rows.getD k 0) (by rw [getD_at _ _ hk]; exact List.getElem_mem hk)
    exact h (by simpa using this)
  unfold ffR; rw [if_neg this]
theorem ffR_yes {wd : Int} {rows : List Int} (h : 1 ≤ wd ∧ wd ≤ 1000 ∧ rows.length ≤ 30) (h' : ∀ j, j < rows.length → 1 ≤ rows.getD j 0 ∧ rows.getD j 0 ≤ wd) : ffR wd rows = (ff wd rows rows.length).1 := by
  have : ffOk wd rows = true := by
    unfold ffOk
    simp only [Bool.and_eq_true, List.all_eq_true]
    refine ⟨by simpa using h, fun x hx => ?_⟩
    obtain ⟨k, hk, rfl⟩ := List.getElem_of_mem hx
    have := h' k hk
    rw [getD_at _ _ hk] at this
    simpa using this
  unfold ffR; rw [if_pos this]
theorem ff_out {wd : Int} {rows : List Int} {k : Nat} : (ff wd rows (k + 1)).1 = (ff wd rows k).1 ++ [((fitAt (rows.getD k 0) (ff wd rows k).2 : Nat) : Int)] := rfl
theorem ff_in {wd : Int} {rows : List Int} {k : Nat} (h : fitAt (rows.getD k 0) (ff wd rows k).2 < (ff wd rows k).2.length) :
    (ff wd rows (k + 1)).2 = (ff wd rows k).2.set (fitAt (rows.getD k 0) (ff wd rows k).2) ((ff wd rows k).2.getD (fitAt (rows.getD k 0) (ff wd rows k).2) 0 - rows.getD k 0) := by
  show (if _ then _ else _) = _
  rw [if_pos h]
theorem ff_new {wd : Int} {rows : List Int} {k : Nat} (h : ¬ fitAt (rows.getD k 0) (ff wd rows k).2 < (ff wd rows k).2.length) :
    (ff wd rows (k + 1)).2 = (ff wd rows k).2 ++ [wd - rows.getD k 0] := by
  show (if _ then _ else _) = _
  rw [if_neg h]
theorem fitAt_le (x : Int) (ls : List Int) : fitAt x ls ≤ ls.length := List.findIdx_le_length
theorem ffR_len (wd : Int) (rows : List Int) : (ffR wd rows).length ≤ rows.length := by
  unfold ffR; split
  · rw [(ff_len wd rows rows.length).1]; exact Nat.le_refl _
  · exact Nat.zero_le _
/-- An integer list of the call's own, as the walks hand it back. -/
def GetF (L : List Int) (w : World) (e : Ending) (w' : World) : Prop := ∃ a c, e = .returned (.slice a L.length c) ∧ SlR w' a L.length (ic L) ∧ Fresh w.heap.size a L.length ∧ Below w.heap.size w w'
theorem GetF.nil {L : List Int} {w w' : World} (h : L = []) (hb : Below w.heap.size w w') (a : Option Addr) (c : Nat) : GetF L w (.returned (.slice a 0 c)) w' := by
  subst h; exact ⟨a, c, rfl, .inl rfl, .inl rfl, hb⟩
theorem GetF.own {L : List Int} {w w' : World} {e : TypeId} {B g n c : Nat} (h : Own1 w' B e g n c (L.map (Value.int .i64))) (hB : w.heap.size ≤ B) (hb : Below w.heap.size w w') : GetF L w (.returned (.slice (some ⟨g, 0, none⟩) n c)) w' := by
  have hl := h.len
  rw [List.length_map] at hl
  subst hl
  exact ⟨_, _, rfl, h.sl, .of (Nat.le_trans hB h.lt.1), hb⟩

theorem map_set_int (zs : List Int) (j : Nat) (x : Int) : (zs.map (Value.int .i64)).set j (.int .i64 x) = (zs.set j x).map (Value.int .i64) := by rw [List.map_set]
set_option maxHeartbeats 2000000 in
theorem iFirstFit_any (wd : Int) (a : Option Addr) (n c : Nat) (rows : List Int) (w : World) (hl : rows.length = n) (hm : n ≤ 1048576) (hR : SlR w a n (ic rows)) :
    Calls Try.prog 23 #[.int .i64 wd, .slice a n c] w (GetF (ffR wd rows) w) := by
  have HL := Lib.hid hl
  have HR := Lib.hid hR
  clear hR
  by_cases hin : 1 ≤ wd ∧ wd ≤ 1000 ∧ n ≤ 30
  · have HIN : Hid (1 ≤ wd ∧ wd ≤ 1000 ∧ rows.length ≤ 30) := Lib.hid (by rw [hl]; exact hin)
    obtain ⟨q1, q2, q3⟩ := hin
    clear hl
    go_enter Try.func23, Try.ntmps23
    go_wp2_with (go_at_call 58; (first | refine (within_t _ _ _ _ (by omega) (by omega)).mono ?_ | refine (within_f _ _ _ _ (by omega)).mono ?_); rintro e w' ⟨rfl, rfl⟩)
    have O1 := (Own1.empty w 3).alloc (.cells #[] 3 (0, 0))
    have O2 := (Own1.empty (w.alloc (.cells #[] 3 (0, 0))) 3).mono (B' := w.heap.size) (by simp)
    have z2 : (w.alloc (.cells #[] 3 (0, 0))).heap.size = w.heap.size + 1 := by simp
    rw [z2] at O2
    clear z2
    have B0 : Below w.heap.size w ((w.alloc (.cells #[] 3 (0, 0))).alloc (.cells #[] 3 (0, 0))) := (by (repeat' (first | exact Below.refl _ _ | refine Below.drew ?_ | refine Below.setCell ?_ ?_ _ | refine Below.alloc ?_ ?_ _)) <;> (first | (simp; done) | (simp; omega)))
    go_loopw [5, 6, 22] (fun v u i wr => ∃ (k g1 c1 g2 c2 : Nat), k ≤ n ∧ i = .int .i64 k ∧ v = .slice (some ⟨g1, 0, none⟩) k c1 ∧ u = .slice (some ⟨g2, 0, none⟩) (ff wd rows k).2.length c2 ∧
      Own1 wr w.heap.size 3 g1 k c1 ((ff wd rows k).1.map (Value.int .i64)) ∧ Own1 wr w.heap.size 3 g2 (ff wd rows k).2.length c2 ((ff wd rows k).2.map (Value.int .i64)) ∧ g1 ≠ g2 ∧ (∀ j, j < k → 1 ≤ rows.getD j 0 ∧ rows.getD j 0 ≤ wd) ∧ Below w.heap.size w wr) (fun _ _ i _ => n - (intOf i).toNat)
    case atStart => exact ⟨0, w.heap.size, 0, _, 0, Nat.zero_le _, rfl, rfl, rfl, O1, O2, by simp, fun j h => absurd h (Nat.not_lt_zero j), B0⟩
    case round =>
      obtain ⟨k, g1, c1, g2, c2, hk, rfl, rfl, rfl, h1, h2, hne, hok, hB⟩ := hrel
      have H1 := Lib.hid h1
      have H2 := Lib.hid h2
      have HN := Lib.hid hne
      have HO := Lib.hid hok
      have HB := Lib.hid hB
      clear h1 h2 hne hok hB
      have hlen2 := (ff_len wd rows k).2
      by_cases hlt : k < n
      · obtain ⟨g, rfl, hr⟩ := HR.out.row (by omega)
        have r0 := (hr.below HB.out hr.lt).cell hlt
        have HGN : Hid (g ≠ g2) := Lib.hid (by have := hr.lt; have := H2.out.lt; omega)
        unfold ic at r0
        clear hr
        by_cases hx : 1 ≤ rows.getD k 0 ∧ rows.getD k 0 ≤ wd
        · have HO2 : Hid (∀ j, j < k + 1 → 1 ≤ rows.getD j 0 ∧ rows.getD j 0 ≤ wd) := Lib.hid (by
            intro j hj
            by_cases e : j = k
            · rw [e]; exact hx
            · exact HO.out j (by omega))
          have HBD := Lib.hid (ff_bd (k := k) ⟨q1, q2⟩ HO.out)
          obtain ⟨x1, x2⟩ := hx
          have HFO : Hid ((ff wd rows (k + 1)).1 = (ff wd rows k).1 ++ [((fitAt (rows.getD k 0) (ff wd rows k).2 : Nat) : Int)]) := Lib.hid rfl
          have hbx := Below.box wr (.cells #[.int .i64 (rows.getD k 0)] 3 (0, 0))
          have HBX := Lib.hid hbx
          have b0 := (Row.of_new wr #[.int .i64 (rows.getD k 0)] 3).cell (i := 0) (by simp)
          by_cases hfit : fitAt (rows.getD k 0) (ff wd rows k).2 < (ff wd rows k).2.length
          · have HF2 := Lib.hid (ff_in (wd := wd) (rows := rows) (k := k) hfit)
            have HZ : Hid (fitZ (rows.getD k 0) (ff wd rows k).2 = ((fitAt (rows.getD k 0) (ff wd rows k).2 : Nat) : Int)) := Lib.hid (by unfold fitZ; rw [if_pos hfit])
            have hroom := fitAt_room hfit
            have hbd : (ff wd rows k).2.getD (fitAt (rows.getD k 0) (ff wd rows k).2) 0 ≤ 1000 := (HBD.out _ (by rw [getD_at _ _ hfit]; exact List.getElem_mem hfit)).2
            have htl : fitAt (rows.getD k 0) (ff wd rows k).2 ≤ 1048576 := by omega
            clear HBD hbx HO
            generalize rows.getD k 0 = q at *
            generalize hL : (ff wd rows k).2 = L at *
            have HLl := Lib.hid hL
            clear hL
            generalize hT : fitAt q L = t at *
            have HT := Lib.hid hT
            clear hT
            generalize hLL : L.length = m at *
            have HLL := Lib.hid hLL
            clear hLL
            have hmm : m ≤ 1048576 := by omega
            have i1 : (0 : Int) ≤ (t : Int) := by omega
            have i2 : (t : Int) < (m : Int) := by omega
            go_wp2_with (first | (go_at_call 58; (first | refine (within_t _ _ _ _ (by omega) (by omega)).mono ?_ | refine (within_f _ _ _ _ (by omega)).mono ?_); rintro e w' ⟨rfl, rfl⟩) | (go_at_call 60; refine (index_fit _ _ _ _ q L _ HLL.out hmm (H2.out.sl.below HBX.out) b0).mono ?_; rw [HZ.out]; rintro e w2 ⟨rfl, hb2⟩; have HB2 := Lib.hid (HBX.out.trans (hb2.mono HBX.out.size)); have HQ2 := Lib.hid ((hb2.cell (p := ⟨wr.heap.size, 0, none⟩) (by simp)).trans b0); clear hb2))
            have H1b := Lib.hid (H1.out.below HB2.out)
            have H2b := Lib.hid (H2.out.below HB2.out)
            have e0 := (H2b.out.cells).cell hfit
            unfold ic at e0
            have f0 := H2b.out.frozen t
            generalize L.getD t 0 = r at *
            have e1 : w2.cell? ⟨wr.heap.size, 0, none⟩ = some (.int .i64 q) := HQ2.out
            have hg2 : g2 ≠ g1 := Ne.symm HN.out
            have H1c : Hid (Own1 ((w2.setCell ⟨g2, t, none⟩ (.int .i64 (r - q)))) w.heap.size 3 g1 k c1 ((ff wd rows k).1.map (Value.int .i64))) := Lib.hid ((H1b.out.set_other (p := ⟨g2, t, none⟩) HN.out _))
            go_region
            go_wp2_with (at_builtin; refine append_one rfl _ _ 33 rfl Try.underlying33 infoInt rfl (by omega) rfl (H1c.out.alloc _).drew (by omega) rfl (new_cellD (by simp)) rfl ?_; intro g' c' w3 o3 oo3 l3; have O3 := Lib.hid o3; have OO3 := Lib.hid oo3; have L3 := Lib.hid l3; clear o3 oo3 l3)
            go_roundw
            case rel =>
              have e2 : (ff wd rows (k + 1)).2.length = m := by rw [HF2.out, List.length_set, HLL.out]
              have hs := (HBX.out.size); have hs2 := HB2.out.size
              have hlg := H2.out.lt
              have hlg1 := H1.out.lt
              have BW : Below w.heap.size w (((w2.setCell ⟨g2, t, none⟩ (.int .i64 (r - q))).alloc (.cells #[.int .i64 t] 3)).drew) :=
                (((HB.out.trans (HB2.out.mono HB.out.size)).setCell hlg.1 _).alloc (by have := HB.out.size; simp; omega) _).drew
              refine ⟨k + 1, g', c', g2, c2, by omega, by go_num, rfl, by rw [e2], ?_, ?_, ?_, HO2.out, BW.trans (OO3.out.toBelow hlg1.1 BW.size)⟩
              · rw [HFO.out, List.map_append]; exact O3.out
              · rw [e2, HF2.out, ← map_set_int]
                exact ((H2b.out.set t (.int .i64 (r - q))).alloc _).drew.keep OO3.out (Ne.symm HN.out)
              · rcases L3.out with h | h
                · rw [h]; exact HN.out
                · simp at h; omega
            case measure => simp [intOf]; omega
          · have HF2 := Lib.hid (ff_new (wd := wd) (rows := rows) (k := k) hfit)
            have hTe : fitAt (rows.getD k 0) (ff wd rows k).2 = (ff wd rows k).2.length := by have := fitAt_le (rows.getD k 0) (ff wd rows k).2; omega
            have HZ : Hid (fitZ (rows.getD k 0) (ff wd rows k).2 = -1) := Lib.hid (by unfold fitZ; rw [if_neg hfit])
            rw [hTe] at HFO
            clear HBD hbx HO hfit hTe
            generalize rows.getD k 0 = q at *
            generalize hL : (ff wd rows k).2 = L at *
            clear hL
            generalize hLL : L.length = m at *
            have HLL := Lib.hid hLL
            clear hLL
            have hmm : m ≤ 1048576 := by omega
            go_wp2_with (first | (go_at_call 58; (first | refine (within_t _ _ _ _ (by omega) (by omega)).mono ?_ | refine (within_f _ _ _ _ (by omega)).mono ?_); rintro e w' ⟨rfl, rfl⟩) | (go_at_call 60; refine (index_fit _ _ _ _ q L _ HLL.out hmm (H2.out.sl.below HBX.out) b0).mono ?_; rw [HZ.out]; rintro e w2 ⟨rfl, hb2⟩; have HB2 := Lib.hid (HBX.out.trans (hb2.mono HBX.out.size)); have HQ2 := Lib.hid ((hb2.cell (p := ⟨wr.heap.size, 0, none⟩) (by simp)).trans b0); have H1b := Lib.hid (H1.out.below HB2.out); have H2b := Lib.hid (H2.out.below HB2.out); have z2 := HB2.out.size; clear hb2) | (at_builtin; refine append_one rfl _ _ 33 rfl Try.underlying33 infoInt rfl (by omega) rfl (H2b.out.alloc _) (by omega) rfl (new_cell (by simp)) rfl ?_; intro g' c' w3 o3 oo3 l3; have O3 := Lib.hid o3; have OO3 := Lib.hid oo3; have L3 := Lib.hid l3; clear o3 oo3 l3))
            have l2 := H2b.out.lt
            have l1 := H1b.out.lt
            have lq := World.block_lt_of_cell? _ _ HQ2.out
            simp only at lq
            have H2l := H2.out.lt
            have HN3 : Hid (g1 ≠ g') := Lib.hid (by
              rcases L3.out with h | h
              · rw [h]; exact HN.out
              · simp at h; omega)
            have HQ3 : Hid (w3.cell? ⟨wr.heap.size, 0, none⟩ = some (.int .i64 q)) := Lib.hid (by
              have hz := OO3.out.block wr.heap.size (by simp; omega) (by omega)
              have e := World.cell?_of_block (a := ⟨wr.heap.size, 0, none⟩) hz
              rw [e]
              exact ((Below.box w2 _).cell (p := ⟨wr.heap.size, 0, none⟩) (by omega)).trans HQ2.out)
            have H1c := Lib.hid ((H1b.out.alloc (.cells #[.int .i64 wd] 3 (0, 0))).keep OO3.out HN.out)
            have BW3 : Hid (Below w.heap.size w w3) := Lib.hid (by
              have b1 := (HB.out.trans (HB2.out.mono HB.out.size))
              have b2 := b1.alloc (o := (.cells #[.int .i64 wd] 3 (0, 0))) b1.size
              exact b2.trans (OO3.out.toBelow H2l.1 b2.size))
            have e0 : w3.cell? ⟨g', m, none⟩ = some (.int .i64 wd) := by
              have := O3.out.row.cell (i := m) (by omega)
              rw [this]
              have hl' : (L.map (Value.int .i64)).length = m := by rw [List.length_map]; exact HLL.out
              simp [List.getD, hl']
            have e1 := HQ3.out
            have f0 := O3.out.frozen m
            have H1d : Hid (Own1 ((w3.setCell ⟨g', m, none⟩ (.int .i64 (wd - q)))) w.heap.size 3 g1 k c1 ((ff wd rows k).1.map (Value.int .i64))) := Lib.hid (H1c.out.set_other (p := ⟨g', m, none⟩) HN3.out _)
            go_region
            go_wp2_with (at_builtin; refine append_one rfl _ _ 33 rfl Try.underlying33 infoInt rfl (by omega) rfl (H1d.out.alloc _).drew (by omega) rfl (new_cellD (by simp)) rfl ?_; intro g1' c1' w4 o4 oo4 l4; have O4 := Lib.hid o4; have OO4 := Lib.hid oo4; have L4 := Lib.hid l4; clear o4 oo4 l4)
            go_roundw
            case rel =>
              have e2 : (ff wd rows (k + 1)).2.length = m + 1 := by rw [HF2.out, List.length_append, HLL.out]; rfl
              have hlg1 := H1c.out.lt
              have hlg := O3.out.lt
              have BW : Below w.heap.size w (((w3.setCell ⟨g', m, none⟩ (.int .i64 (wd - q))).alloc (.cells #[.int .i64 m] 3)).drew) :=
                ((BW3.out.setCell hlg.1 _).alloc (by have := BW3.out.size; simp; omega) _).drew
              refine ⟨k + 1, g1', c1', g', c', by omega, by go_num, rfl, by rw [e2], ?_, ?_, ?_, HO2.out, BW.trans (OO4.out.toBelow hlg1.1 BW.size)⟩
              · rw [HFO.out, List.map_append]; exact O4.out
              · rw [e2, HF2.out, List.map_append]
                have h9 := ((O3.out.set m (.int .i64 (wd - q))).alloc (.cells #[.int .i64 m] 3)).drew.keep OO4.out (Ne.symm HN3.out)
                have hl' : (L.map (Value.int .i64)).length = m := by rw [List.length_map]; exact HLL.out
                rw [← hl', List.set_append_right _ _ (Nat.le_refl _)] at h9
                simp only [Nat.sub_self, List.set_cons_zero] at h9
                rw [hl'] at h9
                exact h9
              · rcases L4.out with h | h
                · rw [h]; exact HN3.out
                · simp at h; omega
            case measure => simp [intOf]; omega
        · have HV := Lib.hid (ffR_bad (wd := wd) (rows := rows) (k := k) (by rw [HL.out]; exact hlt) hx)
          have hx' : rows.getD k 0 < 1 ∨ wd < rows.getD k 0 := by omega
          clear hx HO
          generalize rows.getD k 0 = q at r0 hx'
          go_wp2_with (go_at_call 58; (first | refine (within_t _ _ _ _ (by omega) (by omega)).mono ?_ | refine (within_f _ _ _ _ (by omega)).mono ?_); rintro e w' ⟨rfl, rfl⟩)
          go_ret
          exact GetF.nil HV.out (HB.out.alloc HB.out.size _) none 0
      · have hk' : k = n := by omega
        subst hk'
        have HV : Hid (ffR wd rows = (ff wd rows k).1) := Lib.hid (by rw [ffR_yes HIN.out (fun j hj => HO.out j (by rw [HL.out] at hj; omega)), HL.out])
        go_wp2
        go_ret
        rw [HV.out]
        exact GetF.own H1.out (Nat.le_refl _) HB.out
  · have HV := Lib.hid (ffR_no (wd := wd) (rows := rows) (by rw [hl]; exact hin))
    have hin' : (wd < 1 ∨ 1000 < wd) ∨ (1 ≤ wd ∧ wd ≤ 1000 ∧ 30 < n) := by omega
    clear hin hl
    rcases hin' with h | ⟨h1, h2, h3⟩
    all_goals go_enter Try.func23, Try.ntmps23
    all_goals go_wp2_with (go_at_call 58; (first | refine (within_t _ _ _ _ (by omega) (by omega)).mono ?_ | refine (within_f _ _ _ _ (by omega)).mono ?_); rintro e w' ⟨rfl, rfl⟩)
    all_goals go_ret
    all_goals exact GetF.nil HV.out (Below.refl _ _) none 0

theorem cells_keep {w w' : World} {g o : Nat} {v : Value} (h : w.cell? ⟨g, o, none⟩ = some v) (hb : Below w.heap.size w w') : w'.cell? ⟨g, o, none⟩ = some v :=
  (hb.cell (p := ⟨g, o, none⟩) (World.block_lt_of_cell? _ _ h)).trans h
set_option maxHeartbeats 2000000 in
theorem sFirstFit_any (wd : Int) (a : Option Addr) (n c : Nat) (rows : List Int) (w : World) (hl : rows.length = n) (hm : n ≤ 1048576) (hR : SlR w a n (ic rows)) :
    Calls Try.prog 39 #[.int .i64 wd, .slice a n c] w (GetF (ffR wd rows) w) := by
  have HL := Lib.hid hl
  have HR := Lib.hid hR
  clear hR
  by_cases hin : 1 ≤ wd ∧ wd ≤ 1000 ∧ n ≤ 30
  · have HIN : Hid (1 ≤ wd ∧ wd ≤ 1000 ∧ rows.length ≤ 30) := Lib.hid (by rw [hl]; exact hin)
    obtain ⟨q1, q2, q3⟩ := hin
    clear hl
    go_enter Try.func39, Try.ntmps39
    go_wp2_with (go_at_call 70; (first | refine (l01In_t _ _ _ _ (by omega) (by omega)).mono ?_ | refine (l01In_f _ _ _ _ (by omega)).mono ?_); rintro e w' ⟨rfl, rfl⟩)
    have O1 := (Own1.empty w 3).alloc (.cells #[] 3 (0, 0))
    have O2 := (Own1.empty (w.alloc (.cells #[] 3 (0, 0))) 3).mono (B' := w.heap.size) (by simp)
    have z2 : (w.alloc (.cells #[] 3 (0, 0))).heap.size = w.heap.size + 1 := by simp
    rw [z2] at O2
    clear z2
    have B0 : Below w.heap.size w ((w.alloc (.cells #[] 3 (0, 0))).alloc (.cells #[] 3 (0, 0))) := (by (repeat' (first | exact Below.refl _ _ | refine Below.drew ?_ | refine Below.setCell ?_ ?_ _ | refine Below.alloc ?_ ?_ _)) <;> (first | (simp; done) | (simp; omega)))
    go_loopw [5, 6, 7] (fun v u i wr => ∃ (k g1 c1 g2 c2 : Nat), k ≤ n ∧ i = .int .i64 k ∧ v = .slice (some ⟨g1, 0, none⟩) k c1 ∧ u = .slice (some ⟨g2, 0, none⟩) (ff wd rows k).2.length c2 ∧
      Own1 wr w.heap.size 3 g1 k c1 ((ff wd rows k).1.map (Value.int .i64)) ∧ Own1 wr w.heap.size 3 g2 (ff wd rows k).2.length c2 ((ff wd rows k).2.map (Value.int .i64)) ∧ g1 ≠ g2 ∧ (∀ j, j < k → 1 ≤ rows.getD j 0 ∧ rows.getD j 0 ≤ wd) ∧ Below w.heap.size w wr) (fun _ _ i _ => n - (intOf i).toNat)
    case atStart => exact ⟨0, w.heap.size, 0, _, 0, Nat.zero_le _, rfl, rfl, rfl, O1, O2, by simp, fun j h => absurd h (Nat.not_lt_zero j), B0⟩
    case round =>
      obtain ⟨k, g1, c1, g2, c2, hk, rfl, rfl, rfl, h1, h2, hne, hok, hB⟩ := hrel
      have H1 := Lib.hid h1
      have H2 := Lib.hid h2
      have HN := Lib.hid hne
      have HO := Lib.hid hok
      have HB := Lib.hid hB
      clear h1 h2 hne hok hB
      have hlen2 := (ff_len wd rows k).2
      by_cases hlt : k < n
      · obtain ⟨g, rfl, hr⟩ := HR.out.row (by omega)
        have r0 := (hr.below HB.out hr.lt).cell hlt
        have HGN : Hid (g ≠ g2) := Lib.hid (by have := hr.lt; have := H2.out.lt; omega)
        unfold ic at r0
        clear hr
        by_cases hx : 1 ≤ rows.getD k 0 ∧ rows.getD k 0 ≤ wd
        · have HO2 : Hid (∀ j, j < k + 1 → 1 ≤ rows.getD j 0 ∧ rows.getD j 0 ≤ wd) := Lib.hid (by
            intro j hj
            by_cases e : j = k
            · rw [e]; exact hx
            · exact HO.out j (by omega))
          have HBD := Lib.hid (ff_bd (k := k) ⟨q1, q2⟩ HO.out)
          obtain ⟨x1, x2⟩ := hx
          have HFO : Hid ((ff wd rows (k + 1)).1 = (ff wd rows k).1 ++ [((fitAt (rows.getD k 0) (ff wd rows k).2 : Nat) : Int)]) := Lib.hid rfl
          have HF2 : Hid (∀ t, fitAt (rows.getD k 0) (ff wd rows k).2 = t → t < (ff wd rows k).2.length → (ff wd rows (k + 1)).2 = (ff wd rows k).2.set t ((ff wd rows k).2.getD t 0 - rows.getD k 0)) := Lib.hid (by intro t ht hm; subst ht; exact ff_in hm)
          have HF3 : Hid (¬ fitAt (rows.getD k 0) (ff wd rows k).2 < (ff wd rows k).2.length → (ff wd rows (k + 1)).2 = (ff wd rows k).2 ++ [wd - rows.getD k 0]) := Lib.hid ff_new
          have HRO := Lib.hid r0
          clear HO r0
          generalize rows.getD k 0 = q at *
          generalize hL : (ff wd rows k).2 = L at *
          clear hL
          generalize hLL : L.length = m at *
          have HLL := Lib.hid hLL
          clear hLL
          have hmm : m ≤ 1048576 := by omega
          have i3 : (0 : Int) ≤ (k : Int) := by omega
          have i4 : (k : Int) < (n : Int) := by omega
          have r0 := HRO.out
          go_wp2_with (go_at_call 70; (first | refine (l01In_t _ _ _ _ (by omega) (by omega)).mono ?_ | refine (l01In_f _ _ _ _ (by omega)).mono ?_); rintro e w' ⟨rfl, rfl⟩)
          clear r0
          rename World => wo
          go_loopw [8] (fun i wi => ∃ t : Nat, t ≤ m ∧ i = .int .i64 t ∧ (∀ j, j < t → L.getD j 0 < q) ∧ Below wo.heap.size wo wi) (fun i _ => m - (intOf i).toNat)
          case atStart => exact ⟨0, Nat.zero_le _, rfl, fun j h => absurd h (Nat.not_lt_zero j), Below.refl _ _⟩
          case round =>
            rename World => wi
            obtain ⟨t, ht, rfl, hsm, hBi⟩ := hrel
            have HS := Lib.hid hsm
            have HBi := Lib.hid hBi
            clear hsm hBi
            have r0 := cells_keep HRO.out HBi.out
            have i1 : (0 : Int) ≤ (t : Int) := by omega
            by_cases htm : t < m
            · have i2 : (t : Int) < (m : Int) := by omega
              have H2i := Lib.hid (H2.out.below HBi.out)
              have e0 := (H2i.out.cells).cell htm
              unfold ic at e0
              by_cases hq : L.getD t 0 < q
              · have HS2 : Hid (∀ j, j < t + 1 → L.getD j 0 < q) := Lib.hid (by
                  intro j hj
                  by_cases e : j = t
                  · rw [e]; exact hq
                  · exact HS.out j (by omega))
                generalize L.getD t 0 = r at e0 hq
                have d1 : decide (r < q) = true := by simpa using hq
                go_wp2
                go_quiet (fail)
                go_wp2
                go_roundw
                case rel => exact ⟨t + 1, by omega, by go_num, HS2.out, below_drewN HBi.out _⟩
                case measure => simp [intOf]; omega
              · have HT := Lib.hid (fitAt_is (ls := L) (by rw [HLL.out]; exact htm) (by omega : q ≤ L.getD t 0) HS.out)
                have HF := Lib.hid (HF2.out t HT.out htm)
                have hbd : L.getD t 0 ≤ 1000 := (HBD.out _ (by rw [getD_at _ _ (by rw [HLL.out]; exact htm)]; exact List.getElem_mem _)).2
                have hq' : q ≤ L.getD t 0 := by omega
                have HE : Hid (∀ W : World, Own1 W w.heap.size 3 g2 m c2 (L.map (Value.int .i64)) → W.cell? ⟨g2, t, none⟩ = some (.int .i64 (L.getD t 0))) := Lib.hid (fun W h => h.cells.cell htm)
                clear HS HBD
                rw [HT.out] at HFO
                generalize L.getD t 0 = r at *
                have d1 : decide (r < q) = false := by simpa using hq
                have d2 : ((t : Int) == (m : Int)) = false := by simp; omega
                go_wp2
                go_quiet (fail)
                obtain ⟨w2, hw2⟩ : ∃ w2 : World, w2 = wi.drewN nq := ⟨_, rfl⟩
                have HB2 : Hid (Below wo.heap.size wo w2) := Lib.hid (hw2 ▸ below_drewN HBi.out _)
                rw [← hw2]
                clear hw2 r0 e0 H2i
                have H1b := Lib.hid (H1.out.below HB2.out)
                have H2b := Lib.hid (H2.out.below HB2.out)
                have r0 := cells_keep HRO.out HB2.out
                have e0 : w2.cell? ⟨g2, t, none⟩ = some (.int .i64 r) := HE.out w2 H2b.out
                have f0 := H2b.out.frozen t
                have H1c : Hid (Own1 ((w2.setCell ⟨g2, t, none⟩ (.int .i64 (r - q)))) w.heap.size 3 g1 k c1 ((ff wd rows k).1.map (Value.int .i64))) := Lib.hid ((H1b.out.set_other (p := ⟨g2, t, none⟩) HN.out _))
                go_wp2
                go_region
                go_wp2_with (at_builtin; refine append_one rfl _ _ 33 rfl Try.underlying33 infoInt rfl (by omega) rfl (H1c.out.alloc _).drew (by omega) rfl (new_cellD (by simp)) rfl ?_; intro g' c' w3 o3 oo3 l3; have O3 := Lib.hid o3; have OO3 := Lib.hid oo3; have L3 := Lib.hid l3; clear o3 oo3 l3)
                go_roundw
                case rel =>
                  have e2 : (ff wd rows (k + 1)).2.length = m := by rw [HF.out, List.length_set, HLL.out]
                  have hs2 := HB2.out.size
                  have hlg := H2.out.lt
                  have hlg1 := H1.out.lt
                  have BW : Below w.heap.size w (((w2.setCell ⟨g2, t, none⟩ (.int .i64 (r - q))).alloc (.cells #[.int .i64 t] 3)).drew) :=
                    (((HB.out.trans (HB2.out.mono HB.out.size)).setCell hlg.1 _).alloc (by have := HB.out.size; simp; omega) _).drew
                  refine ⟨k + 1, g', c', g2, c2, by omega, by go_num, rfl, by rw [e2], ?_, ?_, ?_, HO2.out, BW.trans (OO3.out.toBelow hlg1.1 BW.size)⟩
                  · rw [HFO.out, List.map_append]; exact O3.out
                  · rw [e2, HF.out, ← map_set_int]
                    exact ((H2b.out.set t (.int .i64 (r - q))).alloc _).drew.keep OO3.out (Ne.symm HN.out)
                  · rcases L3.out with h | h
                    · rw [h]; exact HN.out
                    · simp at h; omega
                case measure => simp [intOf]; omega
            · have hte : t = m := by omega
              subst hte
              have HT : Hid (fitAt q L = t) := Lib.hid (by have := fitAt_none (x := q) (ls := L) (fun j hj => HS.out j (by rw [HLL.out] at hj; exact hj)); rw [this, HLL.out])
              have HF := Lib.hid (HF3.out (by rw [HT.out]; exact Nat.lt_irrefl _))
              rw [HT.out] at HFO
              have d0 : decide (t < t) = false := by simp
              clear HS HBD HF3
              go_wp2
              go_quiet (fail)
              obtain ⟨w2, hw2⟩ : ∃ w2 : World, w2 = wi.drewN nq := ⟨_, rfl⟩
              have HB2 : Hid (Below wo.heap.size wo w2) := Lib.hid (hw2 ▸ below_drewN HBi.out _)
              rw [← hw2]
              clear hw2 r0
              have H1b := Lib.hid (H1.out.below HB2.out)
              have H2b := Lib.hid (H2.out.below HB2.out)
              have HRO2 := Lib.hid (cells_keep HRO.out HB2.out)
              have z2 := HB2.out.size
              have hgl := World.block_lt_of_cell? _ _ HRO2.out
              simp only at hgl
              go_wp2_with (at_builtin; refine append_one rfl _ _ 33 rfl Try.underlying33 infoInt rfl (by omega) rfl (H2b.out.alloc _) (by omega) rfl (new_cell (by simp)) rfl ?_; intro g' c' w3 o3 oo3 l3; have O3 := Lib.hid o3; have OO3 := Lib.hid oo3; have L3 := Lib.hid l3; clear o3 oo3 l3)
              have l2 := H2b.out.lt
              have l1 := H1b.out.lt
              have H2l := H2.out.lt
              have HN3 : Hid (g1 ≠ g') := Lib.hid (by
                rcases L3.out with h | h
                · rw [h]; exact HN.out
                · simp at h; omega)
              have HQ3 : Hid (w3.cell? ⟨g, k, none⟩ = some (.int .i64 q)) := Lib.hid (by
                have hz := OO3.out.block g (by simp; omega) HGN.out
                have e := World.cell?_of_block (a := ⟨g, k, none⟩) hz
                rw [e]
                exact ((Below.box w2 _).cell (p := ⟨g, k, none⟩) hgl).trans HRO2.out)
              have H1c := Lib.hid ((H1b.out.alloc (.cells #[.int .i64 wd] 3 (0, 0))).keep OO3.out HN.out)
              have BW3 : Hid (Below w.heap.size w w3) := Lib.hid (by
                have b1 := (HB.out.trans (HB2.out.mono HB.out.size))
                have b2 := b1.alloc (o := (.cells #[.int .i64 wd] 3 (0, 0))) b1.size
                exact b2.trans (OO3.out.toBelow H2l.1 b2.size))
              have e0 : w3.cell? ⟨g', t, none⟩ = some (.int .i64 wd) := by
                have := O3.out.row.cell (i := t) (by omega)
                rw [this]
                have hl' : (L.map (Value.int .i64)).length = t := by rw [List.length_map]; exact HLL.out
                simp [List.getD, hl']
              have e1 := HQ3.out
              have f0 := O3.out.frozen t
              have i2 : (t : Int) < ((t + 1 : Nat) : Int) := by omega
              have H1d : Hid (Own1 ((w3.setCell ⟨g', t, none⟩ (.int .i64 (wd - q)))) w.heap.size 3 g1 k c1 ((ff wd rows k).1.map (Value.int .i64))) := Lib.hid (H1c.out.set_other (p := ⟨g', t, none⟩) HN3.out _)
              go_region
              go_wp2_with (at_builtin; refine append_one rfl _ _ 33 rfl Try.underlying33 infoInt rfl (by omega) rfl (H1d.out.alloc _).drew (by omega) rfl (new_cellD (by simp)) rfl ?_; intro g1' c1' w4 o4 oo4 l4; have O4 := Lib.hid o4; have OO4 := Lib.hid oo4; have L4 := Lib.hid l4; clear o4 oo4 l4)
              go_roundw
              case rel =>
                have e2 : (ff wd rows (k + 1)).2.length = t + 1 := by rw [HF.out, List.length_append, HLL.out]; rfl
                have hlg1 := H1c.out.lt
                have hlg := O3.out.lt
                have BW : Below w.heap.size w (((w3.setCell ⟨g', t, none⟩ (.int .i64 (wd - q))).alloc (.cells #[.int .i64 t] 3)).drew) :=
                  ((BW3.out.setCell hlg.1 _).alloc (by have := BW3.out.size; simp; omega) _).drew
                refine ⟨k + 1, g1', c1', g', c', by omega, by go_num, rfl, by rw [e2], ?_, ?_, ?_, HO2.out, BW.trans (OO4.out.toBelow hlg1.1 BW.size)⟩
                · rw [HFO.out, List.map_append]; exact O4.out
                · rw [e2, HF.out, List.map_append]
                  have h9 := ((O3.out.set t (.int .i64 (wd - q))).alloc (.cells #[.int .i64 t] 3)).drew.keep OO4.out (Ne.symm HN3.out)
                  have hl' : (L.map (Value.int .i64)).length = t := by rw [List.length_map]; exact HLL.out
                  rw [← hl', List.set_append_right _ _ (Nat.le_refl _)] at h9
                  simp only [Nat.sub_self, List.set_cons_zero] at h9
                  rw [hl'] at h9
                  exact h9
                · rcases L4.out with h | h
                  · rw [h]; exact HN3.out
                  · simp at h; omega
              case measure => simp [intOf]; omega
        · have HV := Lib.hid (ffR_bad (wd := wd) (rows := rows) (k := k) (by rw [HL.out]; exact hlt) hx)
          have hx' : rows.getD k 0 < 1 ∨ wd < rows.getD k 0 := by omega
          clear hx HO
          generalize rows.getD k 0 = q at r0 hx'
          go_wp2_with (go_at_call 70; (first | refine (l01In_t _ _ _ _ (by omega) (by omega)).mono ?_ | refine (l01In_f _ _ _ _ (by omega)).mono ?_); rintro e w' ⟨rfl, rfl⟩)
          go_ret
          exact GetF.nil HV.out (HB.out.alloc HB.out.size _) _ 0
      · have hk' : k = n := by omega
        subst hk'
        have HV : Hid (ffR wd rows = (ff wd rows k).1) := Lib.hid (by rw [ffR_yes HIN.out (fun j hj => HO.out j (by rw [HL.out] at hj; omega)), HL.out])
        go_wp2
        go_ret
        rw [HV.out]
        exact GetF.own H1.out (Nat.le_refl _) HB.out
  · have HV := Lib.hid (ffR_no (wd := wd) (rows := rows) (by rw [hl]; exact hin))
    have hin' : (wd < 1 ∨ 1000 < wd) ∨ (1 ≤ wd ∧ wd ≤ 1000 ∧ 30 < n) := by omega
    clear hin hl
    rcases hin' with h | ⟨h1, h2, h3⟩
    all_goals go_enter Try.func39, Try.ntmps39
    all_goals go_wp2_with (go_at_call 70; (first | refine (l01In_t _ _ _ _ (by omega) (by omega)).mono ?_ | refine (l01In_f _ _ _ _ (by omega)).mono ?_); rintro e w' ⟨rfl, rfl⟩)
    all_goals go_ret
    all_goals exact GetF.nil HV.out (Below.box _ _) _ 0
end Go.Proofs.Ytoflcjgimkbgpaa
