/-
  A list of cuts of the call's own, nil or empty ones among them: contracts of eqCutS, markCutS and heldCutS; append of one cut.
  By an AI agent.
-/
import Derived.Test.YtlplfpoggifadaaCutM
import Derived.Test.YtlplfpoggifadaaOwn
import Derived.Test.YtlplfpoggifadaaKnife
import Derived.Deep.AppendLies
namespace Go.Proofs.Ytlplfpoggifadaa
open Go.ChangeShapes Go.WideShapes Go.ChangeAt Go.RowKit Go.Joins Go.Deep
set_option maxRecDepth 100000
set_option linter.unusedVariables false

/-- A list of cuts, as the walks hand it back. -/
def GetC (L : List DCut) (w : World) (e : Ending) (w' : World) : Prop := ∃ a c, e = .returned (.slice a L.length c) ∧ SlR w' a (L.length * 3) (cc L) ∧ Fresh w.heap.size a (L.length * 3) ∧ Below w.heap.size w w'
theorem GetC.nil {L : List DCut} {w w' : World} (h : L = []) (hb : Below w.heap.size w w') (a : Option Addr) (c : Nat) : GetC L w (.returned (.slice a 0 c)) w' := by
  subst h; exact ⟨a, c, rfl, .inl rfl, .inl rfl, hb⟩
theorem eqCutS_sl (a b : Option Addr) (n ca cb : Nat) (L : List DCut) (w : World) (hm : L.length ≤ 1048576) (hA : SlR w a (L.length * 3) (cc L)) (hB : SlR w b (L.length * 3) (cc L)) :
    Calls Try.prog 13 #[.slice a L.length ca, .slice b L.length cb] w fun e w' => e = .returned (.bool true) ∧ Below w.heap.size w w' := by
  rcases hA with h0 | ⟨g, rfl, hA⟩
  · have h0' : L.length = 0 := by omega
    rw [h0']
    clear hB h0 h0' hm
    go_enter Try.func13, Try.ntmps13
    go_wp2
    refine wp_loop_rounds 1 ?_
    rw [rounds_succ]
    go_wp2
    go_ret
    exact ⟨rfl, Below.refl _ _⟩
  · rcases hB with h0 | ⟨g', rfl, hB⟩
    · have h0' : L.length = 0 := by omega
      rw [h0']
      clear hA h0 h0' hm
      go_enter Try.func13, Try.ntmps13
      go_wp2
      refine wp_loop_rounds 1 ?_
      rw [rounds_succ]
      go_wp2
      go_ret
      exact ⟨rfl, Below.refl _ _⟩
    · exact eqCutS_same g g' _ ca cb L w rfl hm hA hB
theorem markCutS_sl (a : Option Addr) (n c : Nat) (k0 : Int) (d : Nat → Value) (w : World) (hk0 : 0 ≤ k0) (hk1 : k0 ≤ 1000000000) (hm : n ≤ 1048576) (hR : SlR w a (n * 3) d) :
    Calls Try.prog 16 #[.slice a n c, .int .i64 k0] w fun e w' => e = .returned (.int .i64 (k0 + (n * 3 : Nat))) ∧ SlR w' a (n * 3) (numc k0) ∧ Marked a (n * 3) w w' := by
  rcases hR with h0 | ⟨g, rfl, hR⟩
  · have h0' : n = 0 := by omega
    subst h0'
    clear h0 hm
    go_enter Try.func16, Try.ntmps16
    go_wp2
    refine wp_loop_rounds 1 ?_
    rw [rounds_succ]
    go_wp2
    go_ret
    exact ⟨ret_int (by simp), .inl rfl, .inl ⟨rfl, Below.refl _ _⟩⟩
  · by_cases h0 : n = 0
    · subst h0
      clear hR hm
      go_enter Try.func16, Try.ntmps16
      go_wp2
      refine wp_loop_rounds 1 ?_
      rw [rounds_succ]
      go_wp2
      go_ret
      exact ⟨ret_int (by simp), .inl rfl, .inl ⟨rfl, Below.refl _ _⟩⟩
    · refine (markCutS_any g n c k0 d w hk0 hk1 hm hR).mono ?_
      rintro e w' ⟨he, hr, ho⟩
      exact ⟨he, .of_row hr, .inr ⟨by omega, g, rfl, ho.toB⟩⟩
set_option maxHeartbeats 1000000 in
theorem heldCutS_any (a : Option Addr) (n c : Nat) (k0 : Int) (w : World) (hk0 : 0 ≤ k0) (hk1 : k0 ≤ 1000000000) (hm : n ≤ 1048576) (hR : SlR w a (n * 3) (numc k0)) :
    Calls Try.prog 17 #[.slice a n c, .int .i64 k0] w fun e w' => e = .returned (.int .i64 (k0 + (n * 3 : Nat))) ∧ w = w' := by
  have HR := Lib.hid hR
  clear hR
  go_enter Try.func17, Try.ntmps17
  go_wp2
  go_loop [1, 5] (fun s i => ∃ j : Nat, j ≤ n ∧ i = .int .i64 j ∧ s = .int .i64 (k0 + (j * 3 : Nat))) (fun _ i => n - (intOf i).toNat)
  case atStart => exact ⟨0, Nat.zero_le _, rfl, by simp⟩
  case round =>
    obtain ⟨j, hj, rfl, rfl⟩ := hrel
    by_cases hlt : j < n
    · obtain ⟨g, rfl, hr⟩ := HR.out.row (by omega)
      have d0 := hr.cell (i := j * 3) (by omega)
      have d1 := hr.cell (i := j * 3 + 1) (by omega)
      have d2 := hr.cell (i := j * 3 + 2) (by omega)
      unfold numc at d0 d1 d2
      clear hr
      have e0 : ((k0 + ((j * 3 : Nat) : Int)) != (k0 + ((j * 3 : Nat) : Int))) = false := by simp
      obtain ⟨q, hq⟩ : ∃ q : Int, q = k0 + ((j * 3 : Nat) : Int) := ⟨_, rfl⟩
      have q0 : 0 ≤ q := by omega
      have q1 : q ≤ 1004000000 := by omega
      have E1 : k0 + ((j * 3 + 1 : Nat) : Int) = q + 1 := by omega
      have E2 : k0 + ((j * 3 + 2 : Nat) : Int) = q + 2 := by omega
      rw [E1] at d1
      rw [E2] at d2
      rw [← hq] at d0 ⊢
      clear E1 E2 e0
      have HQ := Lib.hid hq
      clear hq
      have w1 : IntKind.i64.wrap (q + 1) = q + 1 := IntWalk.i64_in _ (by omega)
      have w2 : IntKind.i64.wrap (q + 1 + 1) = q + 2 := by rw [show q + 1 + 1 = q + 2 by omega]; exact IntWalk.i64_in _ (by omega)
      have n0 : (q != q) = false := by simp
      have n1 : (q + 1 != q + 1) = false := by simp
      have n2 : (q + 2 != q + 2) = false := by simp
      go_wp2
      go_round
      case rel => exact ⟨j + 1, by omega, by go_num, by congr 1; have := HQ.out; push_cast at this ⊢; omega⟩
      case measure => simp [intOf]; omega
    · have hj' : j = n := by omega
      subst hj'
      go_wp2
      go_ret
      exact ⟨rfl, rfl⟩
/-! ### append of a cut -/
def Own3 (w : World) (B : Nat) (e : TypeId) (g n c : Nat) (xs : List Value) : Prop := w.ownsRow B e 3 (.slice (some ⟨g, 0, none⟩) n c) n xs
theorem Own3.lt {w : World} {B g n c : Nat} {e : TypeId} {xs : List Value} (h : Own3 w B e g n c xs) : B ≤ g ∧ g < w.heap.size := World.ownsRow.lt h g rfl
theorem Own3.heap {w w' : World} {B g n c : Nat} {e : TypeId} {xs : List Value} (h : Own3 w B e g n c xs) (hh : w'.heap[g]? = w.heap[g]?) : Own3 w' B e g n c xs := by
  refine ⟨h.1, ?_⟩
  rcases h.2 with hn | ⟨f, cap, cur, hv, hB, hgg, rest⟩
  · exact .inl hn
  · simp only [Value.slice.injEq, Option.some.injEq, Addr.mk.injEq, and_true, true_and] at hv
    obtain ⟨rfl, rfl⟩ := hv
    exact .inr ⟨g, c, cur, rfl, hB, hh.trans hgg, rest⟩
theorem Own3.below {w w' : World} {B g n c : Nat} {e : TypeId} {xs : List Value} (h : Own3 w B e g n c xs) (hb : Below w.heap.size w w') : Own3 w' B e g n c xs := h.heap (hb.block g h.lt.2)
theorem Own3.keep {w w' : World} {B g n c k : Nat} {e : TypeId} {xs : List Value} (h : Own3 w B e g n c xs) (ho : OnlyB k w w') (hn : g ≠ k) : Own3 w' B e g n c xs := h.heap (ho.block g h.lt.2 hn)
/-- 'append(xs, p)', p a struct of three cells that lies in block b. -/
theorem append_three {P : Program} {ops : Array Oper} {rest : List Oper} {o : Oper} {a : Act} {Q : Exit → Act → World → Prop} {w : World} (hgd : o.guard = none) (s x : Operand) (t : TypeId)
    (ho : o.op = .call { callee := .builtin .append, args := #[s, x], argTypes := #[t, t] })
    {B : Nat} {e : TypeId} {z : Value} {bytes : Nat} (ht : P.underlying t = some (.slice e)) (hi : (P.info? e).map (fun i => (i.zero, i.size, i.bytes)) = some (some z, 3, bytes)) (hzs : z.cells.size = 3) (hby : bytes ≤ 64)
    {g n c : Nat} {xs : List Value} (hs : a.eval s = .slice (some ⟨g, 0, none⟩) n c) (hown : Own3 w B e g n c xs) (hn : n ≤ 1048576)
    {b : Nat} {d : Nat → Value} (hx : a.eval x = .slice (some ⟨b, 0, none⟩) 1 1) (hc : Row w b 3 d) (h1 : ∀ i, i < 3 → (d i).oneCell' = true)
    (h : ∀ g' c' w', Own3 w' B e g' (n + 1) c' (xs ++ rowL d 3) → OnlyB g w w' → (g' = g ∨ g' = w.heap.size) → wpList P ops Q rest (a.put o.dst (.slice (some ⟨g', 0, none⟩) (n + 1) c')) w') : wpList P ops Q (o :: rest) a w := by
  obtain ⟨i, hi0, hz0, hz1, hz2⟩ := info_parts hi
  refine wpList_append_lies w hgd s x t ho B e i z 3 bytes ht hi0 hz0 hz1 hz2 hzs (by omega) _ n xs hs hown ⟨b, 0, none⟩ 1 1 (rowL d 3) hx (rowL_length _ _) (rowL_news hc) (rowL_one h1) (by omega) (by unfold maxLen; omega) (Nat.le_trans (Nat.mul_le_mul_left (n + 1) hby) (by omega)) (by have := hown.lt; omega) w.heap.size rfl ?_
  intro g' c' w' o1 g1 l1 _
  refine h g' c' w' o1 (OnlyB.of_grown g1) ?_
  rcases l1 with l1 | l1
  · left; simpa [Value.ownBlock] using l1.symm
  · exact .inr l1
/-- The same in a region that draws its order: 'append(xs, p)', p a struct of three cells that lies in block b. -/
theorem step_append_three {P : Program} {ops : Array Oper} {o : Oper} {a : Act} {K : Act → World → Prop} {Q : Exit → Act → World → Prop} {E : Prop} {w : World} (hgd : o.guard = none) (s x : Operand) (t : TypeId)
    (ho : o.op = .call { callee := .builtin .append, args := #[s, x], argTypes := #[t, t] })
    {B : Nat} {e : TypeId} {z : Value} {bytes : Nat} (ht : P.underlying t = some (.slice e)) (hi : (P.info? e).map (fun i => (i.zero, i.size, i.bytes)) = some (some z, 3, bytes)) (hzs : z.cells.size = 3) (hby : bytes ≤ 64)
    {g n c : Nat} {xs : List Value} (hs : a.eval s = .slice (some ⟨g, 0, none⟩) n c) (hown : Own3 w B e g n c xs) (hn : n ≤ 1048576)
    {b : Nat} {d : Nat → Value} (hx : a.eval x = .slice (some ⟨b, 0, none⟩) 1 1) (hc : Row w b 3 d) (h1 : ∀ i, i < 3 → (d i).oneCell' = true)
    (h : ∀ g' c' w', Own3 w' B e g' (n + 1) c' (xs ++ rowL d 3) → OnlyB g w w' → (g' = g ∨ g' = w.heap.size) → K (a.put o.dst (.slice (some ⟨g', 0, none⟩) (n + 1) c')) w') : if Region.wanted o (yielded ops a.tmps) = true then Oper.wp P o a w K Q else E := by
  obtain ⟨i, hi0, hz0, hz1, hz2⟩ := info_parts hi
  refine step_append_lies w hgd s x t ho B e i z 3 bytes ht hi0 hz0 hz1 hz2 hzs (by omega) _ n xs hs hown ⟨b, 0, none⟩ 1 1 (rowL d 3) hx (rowL_length _ _) (rowL_news hc) (rowL_one h1) (by omega) (by unfold maxLen; omega) (Nat.le_trans (Nat.mul_le_mul_left (n + 1) hby) (by omega)) (by have := hown.lt; omega) w.heap.size rfl ?_
  intro g' c' w' o1 g1 l1 _
  refine h g' c' w' o1 (OnlyB.of_grown g1) ?_
  rcases l1 with l1 | l1
  · left; simpa [Value.ownBlock] using l1.symm
  · exact .inr l1
def cv (ps : List DCut) : List Value := rowL (cc ps) (ps.length * 3)
theorem cv_push (ps : List DCut) (p : DCut) : cv ps ++ rowL (tri (.int .i64 p.k) (.int .i64 p.g) (.int .i64 p.s)) 3 = cv (ps ++ [p]) := by
  unfold cv rowL
  rw [List.length_append, List.length_singleton, Nat.add_mul, List.range_add, List.map_append, List.map_map]
  congr 1
  · apply List.map_congr_left
    intro j hj
    have hj' : j < ps.length * 3 := List.mem_range.1 hj
    have h1 : (ps ++ [p]).getD (j / 3) default = ps.getD (j / 3) default := by
      simp only [List.getD]; rw [List.getElem?_append_left (by omega)]
    unfold cc
    rw [h1]
  · have h2 : (ps ++ [p]).getD ps.length default = p := by simp [List.getD]
    apply List.map_congr_left
    intro j hj
    have hj' : j < 3 := List.mem_range.1 hj
    have : j = 0 ∨ j = 1 ∨ j = 2 := by omega
    show tri _ _ _ j = cc _ (ps.length * 3 + j)
    rcases this with rfl | rfl | rfl
    · rw [Nat.add_zero, cc0, h2]; rfl
    · rw [cc1, h2]; rfl
    · rw [cc2, h2]; rfl
theorem Own3.row {w : World} {B g n c : Nat} {e : TypeId} {ps : List DCut} (h : Own3 w B e g n c (cv ps)) (hl : ps.length = n) : Row w g (n * 3) (cc ps) :=
  (Row.of_owns h).congr fun i hi => by unfold cv; rw [hl]; exact rowL_getD _ _ _ hi
theorem GetC.own {L : List DCut} {w w' : World} {e : TypeId} {B g n c : Nat} (h : Own3 w' B e g n c (cv L)) (hl : L.length = n) (hB : w.heap.size ≤ B) (hb : Below w.heap.size w w') : GetC L w (.returned (.slice (some ⟨g, 0, none⟩) n c)) w' := by
  subst hl
  exact ⟨_, _, rfl, .of_row (h.row rfl), .of (Nat.le_trans hB h.lt.1), hb⟩
end Go.Proofs.Ytlplfpoggifadaa
