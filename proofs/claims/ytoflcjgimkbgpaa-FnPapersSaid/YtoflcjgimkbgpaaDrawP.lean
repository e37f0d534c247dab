/-
  Drawn papers: contracts of l23Paper, l23Stock and DrawPapers.
  By an AI agent.
-/
import Derived.Test.YtoflcjgimkbgpaaOwnA
import Derived.Test.YtoflcjgimkbgpaaPaperT
namespace Go.Proofs.Ytoflcjgimkbgpaa
open Go.ChangeShapes Go.WideShapes Go.ChangeAt Go.RowKit
set_option maxRecDepth 100000
set_option linter.unusedVariables false

theorem Row.newQ (w : World) (x y z : Value) (e : TypeId) : Row (w.alloc (.cells #[x, y, z] e (0, 0))) w.heap.size 3 (tri x y z) :=
  (Row.of_new w #[x, y, z] e).congr fun i hi => by
    have : i = 0 ∨ i = 1 ∨ i = 2 := by simp at hi; omega
    rcases this with rfl | rfl | rfl <;> rfl
/-- A drawn paper. -/
def drawnP (p : DPaper) : Prop := (0 ≤ p.k ∧ p.k ≤ 3) ∧ (80 ≤ p.g ∧ p.g ≤ 260) ∧ (0 ≤ p.s ∧ p.s ≤ 59)
def PapP (b : Nat) (a : Option Addr) (l c : Nat) (w : World) (e : Ending) (w' : World) : Prop :=
  ∃ p : DPaper, e = .returned p.val ∧ drawnP p ∧ Dr w' b a l c ∧ OnlyB b w w'
set_option maxHeartbeats 1600000 in
theorem paper_any (b : Nat) (a : Option Addr) (l c : Nat) (w : World) (hD : Dr w b a l c) :
    Calls Try.prog 80 #[.pointer (some ⟨b, 0, none⟩)] w (PapP b a l c w) := by
  have hlt := hD.lt
  have hB0 := Below.box w (.cells #[.int .i64 0, .int .i64 0, .int .i64 0] 43 (0, 0))
  have HD0 := Lib.hid (hD.below hB0)
  have HR0 := Lib.hid (Row.newQ w (.int .i64 0) (.int .i64 0) (.int .i64 0) 43)
  have HB0 := Lib.hid hB0
  have HD := Lib.hid hD
  clear hD hB0
  go_enter Try.func80, Try.ntmps80
  go_wp2_with fail
  refine (below_any b a l c 4 _ (by omega) HD0.out).mono ?_
  rintro e w1 ⟨v1, rfl, ⟨hv0, hv1, _⟩, hD1, hO1⟩
  have hv1' := hv1 (by omega)
  have HD1 := Lib.hid hD1
  have HO1 := Lib.hid hO1
  have HR1 := Lib.hid (hO1.row HR0.out (by omega))
  clear hD1 hO1 hv1 HR0 HD0
  go_wp2_with fail
  refine (below_any b a l c 10 _ (by omega) HD1.out).mono ?_
  rintro e w2 ⟨v2, rfl, ⟨hu0, hu1, _⟩, hD2, hO2⟩
  have hu1' := hu1 (by omega)
  have HD2 := Lib.hid hD2
  have HO2 := Lib.hid (HO1.out.then hO2)
  have HR2 := Lib.hid (hO2.row HR1.out (by omega))
  clear hD2 hO2 hu1 HR1 HO1 HD1
  go_wp2_with fail
  refine (below_any b a l c 60 _ (by omega) HD2.out).mono ?_
  rintro e w3 ⟨v3, rfl, ⟨hz0, hz1, _⟩, hD3, hO3⟩
  have hz1' := hz1 (by omega)
  have HC3 := Lib.hid hD3.cur
  have HO3 := Lib.hid (OnlyB.then ((OnlyB.refl b w).belowB HB0.out (Nat.le_refl _)) (HO2.out.then hO3))
  have HR3 := Lib.hid (hO3.row HR2.out (by omega))
  clear hD3 hO3 hz1 HR2 HO2 HD2
  have r0 : w3.cell? ⟨w.heap.size, 0, none⟩ = some (.int .i64 0) := HR3.out.cell (i := 0) (by omega)
  have r1 : w3.cell? ⟨w.heap.size, 1, none⟩ = some (.int .i64 0) := HR3.out.cell (i := 1) (by omega)
  have r2 : w3.cell? ⟨w.heap.size, 2, none⟩ = some (.int .i64 0) := HR3.out.cell (i := 2) (by omega)
  have f0 := HR3.out.frozen 0
  have f1 := HR3.out.frozen 1
  have f2 := HR3.out.frozen 2
  go_wp2
  have hb : b ≠ w.heap.size := by omega
  have hF : OnlyB b w (((w3.setCell ⟨w.heap.size, 0, none⟩ (.int .i64 v1)).setCell ⟨w.heap.size, 1, none⟩ (.int .i64 (80 + 20 * v2))).setCell ⟨w.heap.size, 2, none⟩ (.int .i64 v3)) := ((HO3.out.setNew (p := ⟨w.heap.size, 0, none⟩) (Nat.le_refl _) _).setNew (p := ⟨w.heap.size, 1, none⟩) (Nat.le_refl _) _).setNew (p := ⟨w.heap.size, 2, none⟩) (Nat.le_refl _) _
  refine bodyPost_ret (v := .agg #[.int .i64 v1, .int .i64 (80 + 20 * v2), .int .i64 v3]) (by simp [results, Try.results80, go_sem, r0, r1, r2]) rfl ⟨⟨v1, 80 + 20 * v2, v3⟩, rfl, ⟨⟨by show 0 ≤ v1; omega, by show v1 ≤ 3; omega⟩, ⟨by show 80 ≤ 80 + 20 * v2; omega, by show 80 + 20 * v2 ≤ 260; omega⟩, ⟨by show 0 ≤ v3; omega, by show v3 ≤ 59; omega⟩⟩, HD.out.keep hF (((HC3.out.set_other (p := ⟨w.heap.size, 0, none⟩) hb _).set_other (p := ⟨w.heap.size, 1, none⟩) hb _).set_other (p := ⟨w.heap.size, 2, none⟩) hb _), hF⟩
/-! ### the stock -/
def Own3 (w : World) (B : Nat) (e : TypeId) (g n c : Nat) (xs : List Value) : Prop := w.ownsRow B e 3 (.slice (some ⟨g, 0, none⟩) n c) n xs
theorem Own3.lt {w : World} {B g n c : Nat} {e : TypeId} {xs : List Value} (h : Own3 w B e g n c xs) : B ≤ g ∧ g < w.heap.size := World.ownsRow.lt h g rfl
theorem Own3.heap {w w' : World} {B g n c : Nat} {e : TypeId} {xs : List Value} (h : Own3 w B e g n c xs) (hh : w'.heap[g]? = w.heap[g]?) : Own3 w' B e g n c xs := by
  refine ⟨h.1, ?_⟩
  rcases h.2 with hn | ⟨f, cap, cur, hv, hB, hgg, rest⟩
  · exact .inl hn
  · simp only [Value.slice.injEq, Option.some.injEq, Addr.mk.injEq, and_true, true_and] at hv
    obtain ⟨rfl, rfl⟩ := hv
    exact .inr ⟨g, c, cur, rfl, hB, hh.trans hgg, rest⟩
theorem Own3.below {w w' : World} {B g n c : Nat} {e : TypeId} {xs : List Value} (h : Own3 w B e g n c xs) (hb : Below w.heap.size w w') : Own3 w' B e g n c xs := h.heap (hb.block g h.lt.2)
theorem Own3.keep {w w' : World} {B g n c k : Nat} {e : TypeId} {xs : List Value} (h : Own3 w B e g n c xs) (ho : OnlyB k w w') (hn : g ≠ k) : Own3 w' B e g n c xs := h.heap (ho.block g h.lt.2 hn)
/-- 'append(xs, p)', p a struct of three cells that lies in block b. -/
theorem append_three {P : Program} {ops : Array Oper} {rest : List Oper} {o : Oper} {a : Act} {Q : Exit → Act → World → Prop} {w : World} (hgd : o.guard = none) (s x : Operand) (t : TypeId)
    (ho : o.op = .call { callee := .builtin .append, args := #[s, x], argTypes := #[t, t] })
    {B : Nat} {e : TypeId} {z : Value} {bytes : Nat} (ht : P.underlying t = some (.slice e)) (hi : (P.info? e).map (fun i => (i.zero, i.size, i.bytes)) = some (some z, 3, bytes)) (hzs : z.cells.size = 3) (hby : bytes ≤ 64)
    {g n c : Nat} {xs : List Value} (hs : a.eval s = .slice (some ⟨g, 0, none⟩) n c) (hown : Own3 w B e g n c xs) (hn : n ≤ 1048576)
    {b : Nat} {d : Nat → Value} (hx : a.eval x = .slice (some ⟨b, 0, none⟩) 1 1) (hc : Row w b 3 d) (h1 : ∀ i, i < 3 → (d i).oneCell' = true)
    (h : ∀ g' c' w', Own3 w' B e g' (n + 1) c' (xs ++ rowL d 3) → OnlyB g w w' → (g' = g ∨ g' = w.heap.size) → wpList P ops Q rest (a.put o.dst (.slice (some ⟨g', 0, none⟩) (n + 1) c')) w') : wpList P ops Q (o :: rest) a w := by
  obtain ⟨i, hi0, hz0, hz1, hz2⟩ := info_parts hi
  refine wpList_append_lies w hgd s x t ho B e i z 3 bytes ht hi0 hz0 hz1 hz2 hzs (by omega) _ n xs hs hown ⟨b, 0, none⟩ 1 1 (rowL d 3) hx (rowL_length _ _) (rowL_news hc) (rowL_one h1) (by omega) (by unfold maxLen; omega) (Nat.le_trans (Nat.mul_le_mul_left (n + 1) hby) (by omega)) (by have := hown.lt; omega) w.heap.size rfl ?_
  intro g' c' w' o1 g1 l1 _
  refine h g' c' w' o1 (OnlyB.of_grown g1) ?_
  rcases l1 with l1 | l1
  · left; simpa [Value.ownBlock] using l1.symm
  · exact .inr l1
def pv (ps : List DPaper) : List Value := rowL (pc ps) (ps.length * 3)
theorem pv_push (ps : List DPaper) (p : DPaper) : pv ps ++ rowL (tri (.int .i64 p.k) (.int .i64 p.g) (.int .i64 p.s)) 3 = pv (ps ++ [p]) := by
  unfold pv rowL
  rw [List.length_append, List.length_singleton, Nat.add_mul, List.range_add, List.map_append, List.map_map]
  congr 1
  · apply List.map_congr_left
    intro j hj
    have hj' : j < ps.length * 3 := List.mem_range.1 hj
    have h1 : (ps ++ [p]).getD (j / 3) default = ps.getD (j / 3) default := by
      simp only [List.getD]; rw [List.getElem?_append_left (by omega)]
    unfold pc
    rw [h1]
  · have h2 : (ps ++ [p]).getD ps.length default = p := by simp [List.getD]
    apply List.map_congr_left
    intro j hj
    have hj' : j < 3 := List.mem_range.1 hj
    have : j = 0 ∨ j = 1 ∨ j = 2 := by omega
    show tri _ _ _ j = pc _ (ps.length * 3 + j)
    rcases this with rfl | rfl | rfl
    · rw [Nat.add_zero, pc0, h2]; rfl
    · rw [pc1, h2]; rfl
    · rw [pc2, h2]; rfl
theorem Own3.row {w : World} {B g n c : Nat} {e : TypeId} {ps : List DPaper} (h : Own3 w B e g n c (pv ps)) (hl : ps.length = n) : Row w g (n * 3) (pc ps) :=
  (Row.of_owns h).congr fun i hi => by unfold pv; rw [hl]; exact rowL_getD _ _ _ hi
def StkP (b : Nat) (a : Option Addr) (l c : Nat) (w : World) (e : Ending) (w' : World) : Prop :=
  ∃ (n g cS : Nat) (ps : List DPaper), e = .returned (.slice (some ⟨g, 0, none⟩) n cS) ∧ ps.length = n ∧ Row w' g (n * 3) (pc ps) ∧ w.heap.size ≤ g ∧ n ≤ 5 ∧ (∀ p ∈ ps, drawnP p) ∧ Dr w' b a l c ∧ OnlyB b w w'
set_option maxHeartbeats 1600000 in
theorem stock_any (b : Nat) (a : Option Addr) (l c : Nat) (w : World) (hD : Dr w b a l c) :
    Calls Try.prog 62 #[.pointer (some ⟨b, 0, none⟩)] w (StkP b a l c w) := by
  have hbw := hD.lt
  have hb1 := Below.box w (.cells #[] 43 (0, 0))
  have HD1 := Lib.hid (hD.below hb1)
  have HO1 := Lib.hid ((OnlyB.refl b w).belowB hb1 (Nat.le_refl _))
  have HE1 : Hid (Own3 (w.alloc (.cells #[] 43 (0, 0))) w.heap.size 43 w.heap.size 0 0 (pv [])) := Lib.hid (owns_empty w 43 3)
  have HD := Lib.hid hD
  have z1 := hb1.size
  clear hD hb1
  go_enter Try.func62, Try.ntmps62
  go_wp2_with fail
  generalize w.alloc (.cells #[] 43 (0, 0)) = wA at *
  refine (below_any b a l c 6 _ (by omega) HD1.out).mono ?_
  rintro e w2 ⟨v2, rfl, ⟨hu0, hu1, _⟩, hD2, hO2⟩
  have hu1' := hu1 (by omega)
  obtain ⟨n, rfl⟩ : ∃ f : Nat, v2 = (f : Int) := ⟨v2.toNat, by omega⟩
  have hn5 : n ≤ 5 := by omega
  have HE2 := Lib.hid (HE1.out.keep hO2 (by omega))
  have HD2 := Lib.hid hD2
  have HO2 := Lib.hid (HO1.out.then hO2)
  clear hD2 hO2 hu1 hu0 hu1' HE1 HD1 HO1
  go_wp2_with fail
  go_loopw [3, 5] (fun s i wr => ∃ (k cS g : Nat) (ps : List DPaper), k ≤ n ∧ i = .int .i64 k ∧ s = .slice (some ⟨g, 0, none⟩) k cS ∧ ps.length = k ∧ Own3 wr w.heap.size 43 g k cS (pv ps) ∧ (∀ p ∈ ps, drawnP p) ∧ Dr wr b a l c ∧ OnlyB b w wr) (fun _ i _ => n - (intOf i).toNat)
  case atStart => exact ⟨0, 0, w.heap.size, [], Nat.zero_le _, rfl, rfl, rfl, HE2.out, fun p h => absurd h (by simp), HD2.out, HO2.out⟩
  case round =>
    clear HE2 HD2 HO2
    obtain ⟨k, cS, g, ps, hk, rfl, rfl, hl, hA, hz, hDr, hOr⟩ := hrel
    have HL := Lib.hid hl
    have HA := Lib.hid hA
    have HZ := Lib.hid hz
    have HDr := Lib.hid hDr
    have HOr := Lib.hid hOr
    clear hl hA hz hDr hOr
    by_cases hlt : k < n
    · go_wp2_with fail
      refine (paper_any b a l c _ HDr.out).mono ?_
      rintro e w4 ⟨p, rfl, hp, hD5, hO5⟩
      have hsz := hO5.size
      have hgB := HA.out.lt
      have HA4 := Lib.hid (HA.out.keep hO5 (by omega))
      have HZ2 : Hid (∀ q ∈ ps ++ [p], drawnP q) := Lib.hid (fun q hq => by
        rcases List.mem_append.1 hq with h | h
        · exact HZ.out q h
        · rw [List.mem_singleton.1 h]; exact hp)
      have HO5 := Lib.hid (HOr.out.then hO5)
      have HC5 := Lib.hid hD5.cur
      obtain ⟨x, y, z⟩ := p
      simp only [DPaper.val]
      have hbx := (Below.box w4 (.cells #[.int .i64 x, .int .i64 y, .int .i64 z] 43 (0, 0)))
      have hbx2 := (Below.box (w4.alloc (.cells #[.int .i64 x, .int .i64 y, .int .i64 z] 43 (0, 0))) (.cells #[.int .i64 x, .int .i64 y, .int .i64 z] 43 (0, 0)))
      have HO1 := Lib.hid ((HA4.out.below hbx).below hbx2)
      have hz4 : (w4.alloc (.cells #[.int .i64 x, .int .i64 y, .int .i64 z] 43 (0, 0))).heap.size = w4.heap.size + 1 := by simp
      have HC1 := Lib.hid (Row.newQ (w4.alloc (.cells #[.int .i64 x, .int .i64 y, .int .i64 z] 43 (0, 0))) (.int .i64 x) (.int .i64 y) (.int .i64 z) 43)
      have HO6 := Lib.hid ((HO5.out.belowB hbx HO5.out.size).belowB hbx2 (HO5.out.belowB hbx HO5.out.size).size)
      have HC6 := Lib.hid ((HC5.out.below hbx).below hbx2)
      have hsz2 := hbx.size
      have hsz3 := hbx2.size
      have HZ4 := Lib.hid hz4
      clear hD5 hO5 hp hbx hbx2 hz4
      go_wp2_with (at_builtin; refine append_three rfl (.tmp 17) (.tmp 19) 37 rfl Try.underlying37 infoPaper rfl (by omega) (by simp [Act.eval]) HO1.out (by omega) (by simp [Act.eval]) HC1.out (fun i _ => by unfold tri; split <;> (try split) <;> rfl) ?_; intro g' c' w5 o5 oo5 l5; have O5 := Lib.hid o5; have OO5 := Lib.hid oo5; clear o5 oo5 l5)
      have hbB : Below w.heap.size ((w4.alloc (.cells #[.int .i64 x, .int .i64 y, .int .i64 z] 43 (0, 0))).alloc (.cells #[.int .i64 x, .int .i64 y, .int .i64 z] 43 (0, 0))) w5 := OO5.out.toBelow hgB.1 (by omega)
      have HOF := Lib.hid (HO6.out.belowB hbB (Nat.le_refl _))
      have HCF := Lib.hid (HC6.out.belowB hbB hbw)
      have O6 : Hid (Own3 w5 w.heap.size 43 g' (k + 1) c' (pv (ps ++ [⟨x, y, z⟩]))) := Lib.hid (by rw [← pv_push]; exact O5.out)
      go_roundw
      case rel => exact ⟨k + 1, c', g', ps ++ [⟨x, y, z⟩], by omega, by go_num, rfl, by rw [List.length_append, HL.out]; rfl, O6.out, HZ2.out, HD.out.keep HOF.out HCF.out, HOF.out⟩
      case measure => simp [intOf]; omega
    · have hk' : n = k := by omega
      subst hk'
      go_wp2
      go_ret
      exact ⟨n, g, cS, ps, rfl, HL.out, HA.out.row HL.out, HA.out.lt.1, hn5, HZ.out, HDr.out, HOr.out⟩
def DPapP (w : World) (e : Ending) (w' : World) : Prop :=
  ∃ (n g cS : Nat) (ps : List DPaper), e = .returned (.slice (some ⟨g, 0, none⟩) n cS) ∧ ps.length = n ∧ Row w' g (n * 3) (pc ps) ∧ w.heap.size ≤ g ∧ n ≤ 5 ∧ (∀ p ∈ ps, drawnP p) ∧ Below w.heap.size w w'
theorem papers_any (a : Option Addr) (l c : Nat) (w : World) (hm : l ≤ 1048576) (hY : Bytes w a l) :
    Calls Try.prog 24 #[.slice a l c] w (DPapP w) := by
  go_enter Try.func24, Try.ntmps24
  go_wp2_with fail
  refine (new_any a l c _ hm hY).mono ?_
  rintro e w1 ⟨b, rfl, hb, hD, hBe⟩
  have HBe := Lib.hid hBe
  have hz := hBe.size
  go_wp2_with fail
  refine (stock_any b a l c _ hD).mono ?_
  rintro e w2 ⟨n, g, cS, ps, rfl, hl, hr, hg, hn, hp, _, hO⟩
  have HX := Lib.hid (show ps.length = n ∧ Row w2 g (n * 3) (pc ps) ∧ w.heap.size ≤ g ∧ n ≤ 5 ∧ (∀ p ∈ ps, drawnP p) ∧ Below w.heap.size w w2 from ⟨hl, hr, by omega, hn, hp, HBe.out.trans (hO.toBelow hb (by omega))⟩)
  clear hl hr hg hn hp hO hD hBe
  go_wp2
  go_ret
  exact ⟨n, g, cS, ps, rfl, HX.out⟩
theorem drawn_ok {p : DPaper} (h : drawnP p) : pOk p = true := by
  obtain ⟨h1, h2, h3⟩ := h
  exact paperOk_iff.2 (by omega)
theorem drawn_all {ps : List DPaper} (h : ∀ p ∈ ps, drawnP p) : okAll ps = true := by
  unfold okAll
  rw [List.all_eq_true]
  exact fun p hp => drawn_ok (h p hp)
end Go.Proofs.Ytoflcjgimkbgpaa
