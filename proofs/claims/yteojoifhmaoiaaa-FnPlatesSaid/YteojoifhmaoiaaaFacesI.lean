/-
  Contract of faces: the number of each tile's face, and the faces' sizes.
  By an AI agent.
-/
import Derived.Test.YteojoifhmaoiaaaFill
namespace Go.Proofs.Yteojoifhmaoiaaa
open Go.ChangeShapes Go.WideShapes Go.ChangeAt Go.RowKit Go.Joins Go.Deep
set_option maxRecDepth 100000
set_option linter.unusedVariables false

theorem infoRowI : (Try.prog.info? 28).map (fun i => (i.zero, i.size, i.bytes)) = some (some (.slice none 0 0), 1, 24) := by kernel_rfl
theorem infoIntF : (Try.prog.info? 3).map (fun i => (i.zero, i.size, i.bytes)) = some (some (.int .i64 0), 1, 8) := by kernel_rfl
def hdL (N : Nat) (A : Nat → Nat) (k : Nat) : List Value := (List.range k).map (ghead N A)
theorem hdL_at {N k j : Nat} {A : Nat → Nat} (h : j < k) : (hdL N A k).getD j undef = ghead N A j := by unfold hdL; simp [List.getD, h]
theorem hdL_succ (N : Nat) (A : Nat → Nat) (k x : Nat) : hdL N (fun j => if j = k then x else A j) (k + 1) = hdL N A k ++ [.slice (some ⟨x, 0, none⟩) N N] := by
  unfold hdL
  rw [List.range_succ, List.map_append]
  congr 1
  · refine List.map_congr_left fun j hj => ?_
    have := List.mem_range.1 hj
    have hne : j ≠ k := by omega
    simp [ghead, hne]
  · simp [ghead]
theorem Grid.onlyB {w w' : World} {lo hi go n N g : Nat} {A : Nat → Nat} {F : Nat → Int} (h : Grid w lo hi go n N A F) (ho : OnlyB g w w') (h1 : go ≠ g) (h2 : ∀ k, k < n → A k ≠ g) : Grid w' lo hi go n N A F :=
  ⟨ho.row h.head h1, h.own, fun k hk => ho.row (h.row k hk) (h2 k hk)⟩
theorem Own1.reg {w w' : World} {B : Nat} {e : TypeId} {g n c lo hi : Nat} {xs : List Value} (h : Own1 w B e g n c xs) (hr : Reg lo hi w w') (hn : g < lo ∨ hi ≤ g) : Own1 w' B e g n c xs := h.heap (hr.block g h.lt.2 hn)
/-- The faces as the program hands them back. -/
def FacesP (d f : Int) (n N : Nat) (ss : List ByteArray) (w : World) (e : Ending) (w' : World) : Prop :=
  ∃ (lo hi go cp gz cz : Nat) (A : Nat → Nat) (F : Nat → Int) (zs : List Int), e = .returned (.tuple #[.slice (some ⟨go, 0, none⟩) n cp, .slice (some ⟨gz, 0, none⟩) zs.length cz]) ∧ (w.heap.size ≤ lo ∧ w.heap.size ≤ go ∧ w.heap.size ≤ gz) ∧ Grid w' lo hi go n N A F ∧
    Scan (TE ss N (n * N)) (n * N) (n * N) F zs.length ∧ (∀ j, j < zs.length → zs.getD j 0 = (numF (j : Int) (n * N) F : Nat)) ∧ zs.length ≤ n * N ∧ Row w' gz zs.length (ic zs) ∧ Below w.heap.size w w'
set_option maxHeartbeats 16000000 in
theorem faces_any (d f : Int) (a : Option Addr) (n c N : Nat) (ss : List ByteArray) (w : World) (hC : Cd d f n N ss) (hR : SlR w a n (sc ss)) :
    Calls Try.prog 42 #[.agg #[.int .i64 d, .int .i64 f, .slice a n c]] w (FacesP d f n N ss w) := by
  obtain ⟨j0, hi0, hz0, hz1, hz2⟩ := info_parts infoIntF
  have hb := hC.bds
  have hn := hb.2.2.1
  have hn1 := hb.2.1
  have hN := hb.2.2.2
  have hm160 : n * N ≤ 160 := Nat.mul_le_mul hn hN.2
  have HC := Lib.hid hC
  have HR := Lib.hid hR
  clear hb hC hR
  go_enter Try.func42, Try.ntmps42
  have HB1 : Hid (Below w.heap.size w (w.alloc (.cells #[.int .i64 d, .int .i64 f, .slice a n c] 26 (0, 0)))) := Lib.hid (Below.box w _)
  have hbx : Row (w.alloc (.cells #[.int .i64 d, .int .i64 f, .slice a n c] 26 (0, 0))) w.heap.size 3 (fun j => #[Value.int .i64 d, .int .i64 f, .slice a n c].getD j undef) := Row.of_new w _ _
  have sz1 : (w.alloc (.cells #[.int .i64 d, .int .i64 f, .slice a n c] 26 (0, 0))).heap.size = w.heap.size + 1 := by simp
  have O1 : Own1 ((w.alloc (.cells #[.int .i64 d, .int .i64 f, .slice a n c] 26 (0, 0))).alloc (.cells #[] 28 (0, 0))) w.heap.size 28 (w.heap.size + 1) 0 0 [] := by
    have := (Own1.empty (w.alloc (.cells #[.int .i64 d, .int .i64 f, .slice a n c] 26 (0, 0))) 28)
    rw [sz1] at this
    exact this.mono (by omega)
  have sz2 : ((w.alloc (.cells #[.int .i64 d, .int .i64 f, .slice a n c] 26 (0, 0))).alloc (.cells #[] 28 (0, 0))).heap.size = w.heap.size + 2 := by simp
  have O2 : Own1 (((w.alloc (.cells #[.int .i64 d, .int .i64 f, .slice a n c] 26 (0, 0))).alloc (.cells #[] 28 (0, 0))).alloc (.cells #[] 3 (0, 0))) w.heap.size 3 (w.heap.size + 2) 0 0 [] := by
    have := (Own1.empty ((w.alloc (.cells #[.int .i64 d, .int .i64 f, .slice a n c] 26 (0, 0))).alloc (.cells #[] 28 (0, 0))) 3)
    rw [sz2] at this
    exact this.mono (by omega)
  have sz3 : (((w.alloc (.cells #[.int .i64 d, .int .i64 f, .slice a n c] 26 (0, 0))).alloc (.cells #[] 28 (0, 0))).alloc (.cells #[] 3 (0, 0))).heap.size = w.heap.size + 3 := by simp
  have hbz := (((Below.box w (.cells #[.int .i64 d, .int .i64 f, .slice a n c] 26 (0, 0))).alloc (o := .cells #[] 28 (0, 0)) (by simp)).alloc (o := .cells #[] 3 (0, 0)) (by simp; omega))
  have HO1 := Lib.hid (O1.alloc (.cells #[] 3 (0, 0)))
  have HO2 := Lib.hid O2
  have HBX := Lib.hid ((hbx.alloc (.cells #[] 28 (0, 0))).alloc (.cells #[] 3 (0, 0)))
  have HBZ := Lib.hid hbz
  clear O1 O2 hbx hbz HB1
  go_wp2
  clear sz1 sz2
  have HRW := Lib.hid (HR.out.below HBZ.out)
  generalize ((w.alloc (.cells #[.int .i64 d, .int .i64 f, .slice a n c] 26 (0, 0))).alloc (.cells #[] 28 (0, 0))).alloc (.cells #[] 3 (0, 0)) = W at *
  generalize hbb : w.heap.size = b at *
  have HBB := Lib.hid hbb
  have HW3 := Lib.hid sz3
  clear hbb
  go_loopw [4, 17] (fun v x wr => ∃ (k go cp : Nat) (A : Nat → Nat), k ≤ n ∧ x = .int .i64 k ∧ v = .slice (some ⟨go, 0, none⟩) k cp ∧ Own1 wr b 28 go k cp (hdL N A k) ∧ (go = b + 1 ∨ b + 3 ≤ go) ∧ (∀ j, j < k → (b + 3 ≤ A j ∧ A j ≠ go ∧ ∀ i, i < j → A i ≠ A j) ∧ Row wr (A j) N (fun _ => .int .i64 (-1))) ∧ OnlyB (b + 1) W wr) (fun _ x _ => n - (intOf x).toNat)
  case atStart => exact ⟨0, b + 1, 0, fun _ => 0, Nat.zero_le _, rfl, rfl, HO1.out, .inl rfl, fun j h => absurd h (Nat.not_lt_zero j), OnlyB.refl _ _⟩
  case round =>
    obtain ⟨k, go, cp, A, hk, rfl, rfl, h1, h2, h3, h4⟩ := hrel
    have H1 := Lib.hid h1
    have H2 := Lib.hid h2
    have H3 := Lib.hid h3
    have H4 := Lib.hid h4
    clear h1 h2 h3 h4
    have hszw := H4.out.size
    have hBw := H4.out.toBelow (B := b) (by omega) (by omega)
    have HBw := Lib.hid (HBZ.out.trans hBw)
    by_cases hlt : k < n
    · obtain ⟨ga, rfl, hr⟩ := (HR.out.below (w' := wr) (by rw [HBB.out]; exact HBw.out)).row (by omega)
      have c0 := hr.cell hlt
      unfold sc at c0
      have hsz := HC.out.size hlt
      unfold rowS at hsz
      generalize ss.getD k ByteArray.empty = S at c0 hsz
      clear hr hBw
      go_wp2_with (at_make; refine wpList_make_full _ rfl _ _ 28 rfl wr.heap.size 3 j0 _ 1 Try.underlying28 hi0 hz0 hz1 .i64 .i64 N N N rfl rfl rfl rfl (by rw [hz2]; omega) (by unfold maxLen; omega) (Nat.le_refl _) ?_; intro w2 own2 gr2; have B2 : Below wr.heap.size wr w2 := (Below.refl _ _).grown gr2 (Nat.le_refl _) (by simp); have HB2 := Lib.hid B2; have HR2 : Hid (Row w2 wr.heap.size N (fun i => if i < 0 then .int .i64 (-1) else .int .i64 0)) := Lib.hid (((Row.of_owns own2).mono (M := N) (by omega)).congr fun j hj => (by rw [made_at _ _ _ (by omega), if_neg (by omega)]; simp [Value.cells, Nat.mod_one])); clear own2 gr2 B2)
      have hszR : wr.heap.size < w2.heap.size := HR2.out.lt
      generalize hRR : wr.heap.size = R at *
      have HRR := Lib.hid hRR
      clear hRR c0
      go_loopw [26] (fun x wk => ∃ p : Nat, p ≤ N ∧ x = .int .i64 p ∧ Row wk R N (fun i => if i < p then .int .i64 (-1) else .int .i64 0) ∧ OnlyB R w2 wk) (fun x _ => N - (intOf x).toNat)
      case atStart => exact ⟨0, Nat.zero_le _, rfl, HR2.out, OnlyB.refl _ _⟩
      case round =>
        obtain ⟨p, hp, rfl, g1, g2⟩ := hrel
        rename World => wi
        have G1 := Lib.hid g1
        have G2 := Lib.hid g2
        clear g1 g2
        by_cases hlp : p < N
        · have c3 := G1.out.cell hlp
          rw [if_neg (Nat.lt_irrefl _)] at c3
          have f3 := G1.out.frozen p
          have HS1 : Hid (Row (wi.setCell ⟨R, p, none⟩ (.int .i64 (-1))) R N (fun i => if i < p + 1 then .int .i64 (-1) else .int .i64 0)) := Lib.hid ((G1.out.set p _).congr fun i hi => by
            by_cases e : i = p
            · subst e; simp
            · rw [if_neg e]
              by_cases e2 : i < p
              · rw [if_pos e2, if_pos (by omega)]
              · rw [if_neg e2, if_neg (by omega)])
          go_wp2
          go_roundw
          case rel => exact ⟨p + 1, by omega, by go_num, HS1.out, G2.out.set p _⟩
          case measure => simp [intOf]; omega
        · have hp' : p = N := by omega
          subst hp'
          have HROW : Hid (Row wi R p (fun _ => .int .i64 (-1))) := Lib.hid (G1.out.congr (fun i hi => if_pos hi))
          have HOR : Hid (OnlyB R wr wi) := Lib.hid ⟨G2.out.os.trans HB2.out.os, G2.out.tape.trans HB2.out.tape, G2.out.output.trans HB2.out.output, Nat.le_trans HB2.out.size G2.out.size, fun i hi hn => (G2.out.block i (by have := HRR.out; omega) hn).trans (HB2.out.block i (by rw [← HRR.out]; exact hi))⟩
          have HBRi : Hid (Below wr.heap.size wr wi) := Lib.hid (HOR.out.toBelow (by rw [HRR.out]; exact Nat.le_refl _) (Nat.le_refl _))
          have H1i := Lib.hid (H1.out.below HBRi.out)
          have hgl := H1.out.lt
          have HOW : Hid (OnlyB (b + 1) W wi) := Lib.hid (H4.out.below HBRi.out)
          have HENS := Lib.hid (hdL_succ p A k R)
          go_wp2_with (at_builtin; refine append_one rfl _ _ 31 rfl Try.underlying31 infoRowI rfl (by omega) rfl (H1i.out.alloc _) (by omega) rfl (new_cell (by simp)) rfl ?_; intro g' c' w5 o5 oo5 l5; have O5 := Lib.hid o5; have OO5 := Lib.hid oo5; have L5 := Lib.hid l5; clear o5 oo5 l5)
          go_roundw
          case rel =>
            have hRR := HRR.out
            have hwi : R < wi.heap.size := HROW.out.lt
            have hw5 : (wi.alloc (.cells #[.slice (some ⟨R, 0, none⟩) p p] 28 (0, 0))).heap.size = wi.heap.size + 1 := by simp
            have hgR : go < R := by rw [← HRR.out]; exact hgl.2
            have hl5 : (g' = b + 1 ∨ b + 3 ≤ g') ∧ (∀ j, j < k → A j ≠ g') ∧ R ≠ g' := by
              rcases L5.out with h | h
              · subst h; exact ⟨H2.out, fun j hj => (H3.out j hj).1.2.1, by omega⟩
              · rw [hw5] at h
                refine ⟨by omega, fun j hj => ?_, by omega⟩
                have := (H3.out j hj).2.lt
                omega
            have HA1 := Below.box wi (.cells #[.slice (some ⟨R, 0, none⟩) p p] 28 (0, 0))
            have HOF : OnlyB (b + 1) W w5 := by
              rcases H2.out with h | h
              · rw [← h]; exact ((by rw [h]; exact HOW.out : OnlyB go W wi).below HA1).then OO5.out
              · exact (HOW.out.below HA1).newer OO5.out (by omega)
            refine ⟨k + 1, g', c', fun j => if j = k then R else A j, by omega, by go_num, rfl, by rw [HENS.out]; exact O5.out, hl5.1, fun j hj => ?_, HOF⟩
            by_cases e : j = k
            · subst e
              simp only [if_true]
              refine ⟨⟨by omega, hl5.2.2, fun i hi => ?_⟩, OO5.out.row (HROW.out.below HA1 hwi) (by omega)⟩
              rw [if_neg (by omega)]
              have := (H3.out i hi).2.lt
              omega
            · simp only [if_neg e]
              obtain ⟨⟨e1, e2, e3⟩, e4⟩ := H3.out j (by omega)
              refine ⟨⟨e1, hl5.2.1 j (by omega), fun i hi => ?_⟩, OO5.out.row ((e4.below HBRi.out e4.lt).below HA1 (by have := e4.lt; omega)) e2⟩
              rw [if_neg (by omega)]
              exact e3 i hi
          case measure => simp [intOf]; omega
    · have hk' : k = n := by omega
      subst hk'
      have hgo := H1.out.lt
      have HGR : Hid (Grid wr (b + 3) wr.heap.size go k N A (fun _ => -1)) := Lib.hid ⟨(H1.out.row).congr (fun i hi => by rw [hdL_at hi]), fun j hj => ⟨(H3.out j hj).1.1, (H3.out j hj).2.lt, (H3.out j hj).1.2.1, (H3.out j hj).1.2.2⟩, fun j hj => (H3.out j hj).2⟩
      have HGOZ : Hid (go ≠ b + 2 ∧ go < wr.heap.size ∧ b ≤ go) := Lib.hid ⟨by have := H2.out; omega, hgo.2, hgo.1⟩
      have HZ0 := Lib.hid (HO2.out.keep H4.out (by omega))
      have HBX0 := Lib.hid (H4.out.row HBX.out (by omega))
      generalize hhi : wr.heap.size = hi at *
      have HHI := Lib.hid hhi
      clear hhi H1 H2 H3 H4 HO1 HO2 HBX HBZ HRW hgo hBw hszw sz3 HW3
      go_wp2
      go_loopw [5, 40] (fun v x wo => ∃ (q gz cz : Nat) (F : Nat → Int) (zs : List Int), q ≤ k ∧ x = .int .i64 q ∧ v = .slice (some ⟨gz, 0, none⟩) zs.length cz ∧ Scan (TE ss N (k * N)) (k * N) (q * N) F zs.length ∧ (∀ j, j < zs.length → zs.getD j 0 = (numF (j : Int) (k * N) F : Nat)) ∧ zs.length ≤ q * N ∧
        Own1 wo b 3 gz zs.length cz (zs.map (Value.int .i64)) ∧ (gz = b + 2 ∨ hi ≤ gz) ∧ Grid wo (b + 3) hi go k N A F ∧ Row wo b 3 (fun j => #[Value.int .i64 d, .int .i64 f, .slice a k c].getD j undef) ∧ Below b w wo ∧ hi ≤ wo.heap.size) (fun _ x _ => k - (intOf x).toNat)
      case atStart => exact ⟨0, b + 2, 0, _, [], Nat.zero_le _, rfl, rfl, by rw [Nat.zero_mul]; exact Scan.start, fun j h => absurd h (Nat.not_lt_zero j), Nat.zero_le _, HZ0.out, .inl rfl, HGR.out, HBX0.out, HBw.out, by rw [HHI.out]; exact Nat.le_refl _⟩
      case round =>
        obtain ⟨q, gz, cz, F, zs, hq, rfl, rfl, s1, s2, s3, s4, s5, s6, s7, s8, s9⟩ := hrel
        rename World => wo
        have S1 := Lib.hid s1
        have S2 := Lib.hid s2
        have S3 := Lib.hid s3
        have S4 := Lib.hid s4
        have S5 := Lib.hid s5
        have S6 := Lib.hid s6
        have S7 := Lib.hid s7
        have S8 := Lib.hid s8
        have S9 := Lib.hid s9
        clear s1 s2 s3 s4 s5 s6 s7 s8 s9
        by_cases hlq : q < k
        · have c1 := S6.out.head.cell hlq
          unfold ghead at c1
          go_wp2
          clear c1
          have e3 : (q + 1) * N = q * N + N := Nat.succ_mul q N
          have E3 := Lib.hid e3
          clear e3
          go_loopw [5, 48] (fun v x wk => ∃ (i gz cz : Nat) (F : Nat → Int) (zs : List Int), i ≤ N ∧ x = .int .i64 i ∧ v = .slice (some ⟨gz, 0, none⟩) zs.length cz ∧ Scan (TE ss N (k * N)) (k * N) (q * N + i) F zs.length ∧ (∀ j, j < zs.length → zs.getD j 0 = (numF (j : Int) (k * N) F : Nat)) ∧ zs.length ≤ q * N + i ∧
            Own1 wk b 3 gz zs.length cz (zs.map (Value.int .i64)) ∧ (gz = b + 2 ∨ hi ≤ gz) ∧ Grid wk (b + 3) hi go k N A F ∧ Row wk b 3 (fun j => #[Value.int .i64 d, .int .i64 f, .slice a k c].getD j undef) ∧ Below b w wk ∧ hi ≤ wk.heap.size) (fun _ x _ => N - (intOf x).toNat)
          case atStart => exact ⟨0, gz, cz, F, zs, Nat.zero_le _, rfl, rfl, S1.out, S2.out, S3.out, S4.out, S5.out, S6.out, S7.out, S8.out, S9.out⟩
          case round =>
            clear S1 S2 S3 S4 S5 S6 S7 S8 S9
            obtain ⟨i, gz, cz, F, zs, hi', rfl, rfl, s1, s2, s3, s4, s5, s6, s7, s8, s9⟩ := hrel
            rename World => wk
            have S1 := Lib.hid s1
            have S2 := Lib.hid s2
            have S3 := Lib.hid s3
            have S4 := Lib.hid s4
            have S5 := Lib.hid s5
            have S6 := Lib.hid s6
            have S7 := Lib.hid s7
            have S8 := Lib.hid s8
            have S9 := Lib.hid s9
            clear s1 s2 s3 s4 s5 s6 s7 s8 s9
            by_cases hli : i < N
            · have c1 := S6.out.head.cell hlq
              unfold ghead at c1
              have c2 := (S6.out.row q hlq).cell hli
              unfold gcell at c2
              have htm : q * N + i < k * N := tile_lt hlq hli
              obtain ⟨v, hv⟩ : ∃ v, F (q * N + i) = v := ⟨_, rfl⟩
              rw [hv] at c2
              by_cases hv0 : v < 0
              · have HV : Hid (F (q * N + i) < 0) := Lib.hid (by rw [hv]; exact hv0)
                have HTM := Lib.hid htm
                have b0 : wk.cell? ⟨b, 0, none⟩ = some (.int .i64 d) := S7.out.cell (i := 0) (by omega)
                have b1 : wk.cell? ⟨b, 1, none⟩ = some (.int .i64 f) := S7.out.cell (i := 1) (by omega)
                have b2 : wk.cell? ⟨b, 2, none⟩ = some (.slice a k c) := S7.out.cell (i := 2) (by omega)
                have hzl : zs.length ≤ 160 := by have := S3.out; omega
                have HZL := Lib.hid hzl
                have hgl := S4.out.lt
                clear hv
                go_wp2_with (first | (go_at_call 64; refine (fill_any d f a k c N ss w (b + 3) hi go cp A zs.length HC.out HR.out (by rw [HBB.out]; omega) (by omega) _ F q i wk (Nat.lt_succ_self _) hlq hli HV.out (by rw [HBB.out]; exact S8.out) S9.out S6.out).mono ?_; rintro e w5 ⟨T, r, rfl, hfl, hu, hg5, hr5⟩; have HFL := Lib.hid hfl; have HUU := Lib.hid hu; have HG5 := Lib.hid hg5; have HR5 := Lib.hid hr5; have HO5 := Lib.hid (S4.out.reg hr5 (by have := S5.out; omega)); have HX5 := Lib.hid (hr5.row S7.out (.inl (by omega))); have HB5 := Lib.hid (S8.out.trans (hr5.below (B := b) (by omega) (by have := S8.out.size; have := HBB.out; omega))); clear hfl hu hg5 hr5) | (at_builtin; refine append_one rfl _ _ 28 rfl Try.underlying28 infoIntF rfl (by omega) rfl (HO5.out.alloc _) (by omega) rfl (new_cell (by simp)) rfl ?_; intro g' c' w6 o6 oo6 l6; have O6 := Lib.hid o6; have OO6 := Lib.hid oo6; have L6 := Lib.hid l6; clear o6 oo6 l6))
                go_roundw
                case rel =>
                  have h5 := S5.out
                  have hA5 := Below.box w5 (.cells #[.int .i64 (r : Int)] 3 (0, 0))
                  have hsw : wk.heap.size ≤ w5.heap.size := HR5.out.size
                  have hs9 := S9.out
                  have hz6 : (w5.alloc (.cells #[.int .i64 (r : Int)] 3 (0, 0))).heap.size = w5.heap.size + 1 := by simp
                  have hgo := HGOZ.out
                  have hgg : g' = b + 2 ∨ hi ≤ g' := by
                    rcases L6.out with h | h
                    · subst h; exact h5
                    · rw [hz6] at h; right; omega
                  have hsc := S1.out.fill (fun a b h => TE.symm h) (fun a b h => ⟨h.1, h.2.1⟩) HTM.out HV.out HFL.out
                  have hnf := num_fill (m := k * N) HFL.out.chg (by omega) (fun x hx => by have := S1.out.lt x; omega)
                  have hrr : (r : Int) = (numF (zs.length : Int) (k * N) T : Nat) := by have := HUU.out; omega
                  refine ⟨i + 1, g', c', T, zs ++ [(r : Int)], by omega, by go_num, by simp, by rw [List.length_append]; exact hsc, fun j hj => ?_, by rw [List.length_append]; have := S3.out; simp; omega, by rw [List.length_append, List.map_append]; exact O6.out, hgg, (HG5.out.below hA5).onlyB OO6.out (by omega) (fun x hx => by have := HG5.out.own x hx; omega), OO6.out.row (HX5.out.below hA5 HX5.out.lt) (by omega), HB5.out.trans ((hA5.mono (by have := HX5.out.lt; omega)).trans (OO6.out.toBelow (by omega) (by have := HX5.out.lt; rw [hz6]; omega))), ?_⟩
                  · simp only [List.length_append, List.length_cons, List.length_nil] at hj
                    by_cases e : j = zs.length
                    · subst e
                      rw [show (zs ++ [(r : Int)]).getD zs.length 0 = (r : Int) by simp [List.getD]]
                      exact hrr
                    · rw [show (zs ++ [(r : Int)]).getD j 0 = zs.getD j 0 by simp only [List.getD]; rw [List.getElem?_append_left (by omega)], S2.out j (by omega), num_keep HFL.out.chg (by omega) (by omega)]
                  · have := OO6.out.size
                    rw [hz6] at this
                    omega
                case measure => simp [intOf]; omega
              · have HSK : Hid (Scan (TE ss N (k * N)) (k * N) (q * N + (i + 1)) F zs.length) := Lib.hid (S1.out.skip htm (by rw [hv]; omega))
                clear hv
                go_wp2
                go_roundw
                case rel => exact ⟨i + 1, gz, cz, F, zs, by omega, by go_num, rfl, HSK.out, S2.out, by have := S3.out; omega, S4.out, S5.out, S6.out, S7.out, S8.out, S9.out⟩
                case measure => simp [intOf]; omega
            · have hi2 : i = N := by omega
              subst hi2
              go_wp2
              go_roundw
              case rel => exact ⟨q + 1, gz, cz, F, zs, by omega, by go_num, rfl, by rw [E3.out]; exact S1.out, S2.out, by rw [E3.out]; exact S3.out, S4.out, S5.out, S6.out, S7.out, S8.out, S9.out⟩
              case measure => simp [intOf]; omega
        · have hq' : q = k := by omega
          subst hq'
          go_wp2
          go_ret2
          exact ⟨b + 3, hi, go, _, gz, cz, A, F, zs, rfl, by rw [HBB.out]; exact ⟨by omega, HGOZ.out.2.2, S4.out.lt.1⟩, S6.out, S1.out, S2.out, S3.out, S4.out.cells, by rw [HBB.out]; exact S8.out⟩
end Go.Proofs.Yteojoifhmaoiaaa
