/-
  Drawn stories: contracts of l24Story and DrawStory: a drawn story is valid.
  By an AI agent.
-/
import Derived.Test.YtjnjlpljakkakaaOwnA
import Derived.Test.YtjnjlpljakkakaaStoL
import Derived.Test.YtjnjlpljakkakaaStoryM
import Derived.Test.YtjnjlpljakkakaaTail
import Derived.Deep.DeepCutAuto
namespace Go.Proofs.Ytjnjlpljakkakaa
open Go.ChangeShapes Go.WideShapes Go.ChangeAt Go.RowKit Go.Joins Go.Deep
set_option maxRecDepth 100000
set_option linter.unusedVariables false

theorem once_any (b : Nat) (a : Option Addr) (l c : Nat) (n : Int) (w : World) (hn : n ≤ 256) (hD : Dr w b a l c) :
    Calls Try.prog 62 #[.pointer (some ⟨b, 0, none⟩), .int .i64 n] w (OncP b a l c w) := by
  have HD := Lib.hid hD
  clear hD
  go_enter Try.func62, Try.ntmps62
  go_wp2_with fail
  refine (below_any b a l c n _ hn HD.out).mono ?_
  rintro e w1 ⟨v, rfl, _, hD1, hO1⟩
  have HX := Lib.hid (⟨hD1, hO1⟩ : Dr w1 b a l c ∧ OnlyB b w w1)
  clear hD1 hO1
  go_wp2
  go_ret
  exact ⟨_, rfl, HX.out⟩
/-- w' is w but for the block of the slice at a, and new blocks. -/
structure OnlyA (a : Option Addr) (w w' : World) : Prop where
  os : w'.os = w.os
  tape : w'.tape = w.tape
  output : w'.output = w.output
  size : w.heap.size ≤ w'.heap.size
  block : ∀ k, k < w.heap.size → (∀ x, a = some x → k ≠ x.block) → w'.heap[k]? = w.heap[k]?
/-- 'append(xs, u)' at a slice of the call's own that may be nil: u's cell lies in block b. -/
theorem append_n {P : Program} {ops : Array Oper} {rest : List Oper} {o : Oper} {a : Act} {Q : Exit → Act → World → Prop} {w : World} (hgd : o.guard = none) (s x : Operand) (t : TypeId)
    (ho : o.op = .call { callee := .builtin .append, args := #[s, x], argTypes := #[t, t] })
    {B : Nat} {e : TypeId} {z : Value} {bytes : Nat} (ht : P.underlying t = some (.slice e)) (hi : (P.info? e).map (fun i => (i.zero, i.size, i.bytes)) = some (some z, 1, bytes)) (hzs : z.cells.size = 1) (hby : bytes ≤ 64)
    {aS : Option Addr} {n c : Nat} {xs : List Value} (hs : a.eval s = .slice aS n c) (hown : OwnA w B e aS n c xs) (hB : B ≤ w.heap.size) (hn : n ≤ 1048576)
    {b : Nat} {u : Value} (hx : a.eval x = .slice (some ⟨b, 0, none⟩) 1 1) (hc : w.cell? ⟨b, 0, none⟩ = some u) (h1 : u.oneCell' = true)
    (h : ∀ g' c' w', Own1 w' B e g' (n + 1) c' (xs ++ [u]) → OnlyA aS w w' → ((∃ y, aS = some y ∧ g' = y.block) ∨ g' = w.heap.size) → wpList P ops Q rest (a.put o.dst (.slice (some ⟨g', 0, none⟩) (n + 1) c')) w') : wpList P ops Q (o :: rest) a w := by
  obtain ⟨i, hi0, hz0, hz1, hz2⟩ := info_parts hi
  refine wpList_append_lies w hgd s x t ho B e i z 1 bytes ht hi0 hz0 hz1 hz2 hzs (by omega) _ n xs hs hown ⟨b, 0, none⟩ 1 1 [u] hx rfl ?_ ?_ (by omega) (by unfold maxLen; omega) (Nat.le_trans (Nat.mul_le_mul_left (n + 1) hby) (by omega)) hB w.heap.size rfl ?_
  · intro j v hj
    have hj0 : j = 0 := by
      have := (List.getElem?_eq_some_iff.1 hj).1
      simp at this; exact this
    subst hj0
    simp at hj
    subst hj
    rw [add_at]
    exact hc
  · intro v hv
    have := List.mem_singleton.1 hv
    subst this
    exact h1
  · intro g' c' w' o1 g1 l1 _
    refine h g' c' w' o1 ⟨g1.os, g1.tape, g1.output, g1.size, fun k hk hne => g1.block k hk (fun e => ?_)⟩ ?_
    · cases aS with
      | none => simp [Value.ownBlock] at e
      | some y => simp [Value.ownBlock] at e; exact hne y rfl e
    · rcases l1 with l1 | l1
      · cases aS with
        | none => simp [Value.ownBlock] at l1
        | some y => left; exact ⟨y, rfl, by simpa [Value.ownBlock] using l1.symm⟩
      · exact .inr l1
theorem OwnA.heap {w w' : World} {B n c : Nat} {e : TypeId} {a : Option Addr} {xs : List Value} (h : OwnA w B e a n c xs) (hh : ∀ x, a = some x → w'.heap[x.block]? = w.heap[x.block]?) : OwnA w' B e a n c xs := by
  refine ⟨h.1, ?_⟩
  rcases h.2 with hn | ⟨f, cap, cur, hv, hB, hgg, rest⟩
  · exact .inl hn
  · simp only [Value.slice.injEq] at hv
    obtain ⟨rfl, h2, rfl⟩ := hv
    exact .inr ⟨f, c, cur, rfl, hB, (hh ⟨f, 0, none⟩ rfl).trans hgg, rest⟩
def hvS (L : Rows) (A C : Nat → Nat) (k : Nat) : List Value := (List.range k).map fun i => .slice (some ⟨A i, 0, none⟩) (lenN L i) (C i)
/-- What a world holds while a story is drawn: k rows are there. -/
structure StB (w : World) (b : Nat) (a : Option Addr) (l c r o n k : Nat) (aS : Option Addr) (cS : Nat) (L : Rows) (A C : Nat → Nat) (hi : Nat) (wx : World) : Prop where
  dr : Dr w b a l c
  rlo : w.heap.size ≤ r
  ro : r < o
  ohi : o < hi
  hiw : hi ≤ wx.heap.size
  only : OnlyB b w wx
  cur : Cur wx b a l c
  res : Row wx r 1 (fun _ => .slice none 0 0)
  box : Row wx o 1 (fun _ => .slice aS k cS)
  own : OwnA wx (o + 1) 31 aS k cS (hvS L A C k)
  aSb : ∀ x, aS = some x → o < x.block ∧ x.block < hi
  len : L.length = k
  rows : ∀ i, i < k → (o < A i ∧ A i < hi ∧ ∀ x, aS = some x → A i ≠ x.block) ∧ lenN L i ≤ C i ∧ rowOk n (rowN L i) ∧ Row wx (A i) (lenN L i) (ic (rowN L i))
section
variable {w wx wy : World} {b l c r o n k cS hi : Nat} {a aS : Option Addr} {L : Rows} {A C : Nat → Nat}
theorem StB.blt (h : StB w b a l c r o n k aS cS L A C hi wx) : b < w.heap.size := h.dr.lt
theorem StB.frame (h : StB w b a l c r o n k aS cS L A C hi wx) (h1 : wy.os = wx.os) (h2 : wy.tape = wx.tape) (h3 : wy.output = wx.output) (h4 : wx.heap.size ≤ wy.heap.size) (hb : ∀ q, q < hi → q ≠ b → wy.heap[q]? = wx.heap[q]?) (hc : Cur wy b a l c) : StB w b a l c r o n k aS cS L A C hi wy := by
  have hbl := h.blt
  have e1 := h.rlo
  have e2 := h.ro
  have e3 := h.ohi
  refine ⟨h.dr, h.rlo, h.ro, h.ohi, Nat.le_trans h.hiw h4, ⟨h1.trans h.only.os, h2.trans h.only.tape, h3.trans h.only.output, Nat.le_trans h.only.size h4, fun q hq hn => (hb q (by omega) hn).trans (h.only.block q hq hn)⟩, hc, h.res.of_heap (hb r (by omega) (by omega)), h.box.of_heap (hb o (by omega) (by omega)), h.own.heap (fun x hx => by
    have := h.aSb x hx
    exact hb _ (by omega) (by omega)), h.aSb, h.len, fun i hi => ?_⟩
  obtain ⟨⟨a1, a2, a3⟩, a4, a5, a6⟩ := h.rows i hi
  exact ⟨⟨a1, a2, a3⟩, a4, a5, a6.of_heap (hb _ a2 (by omega))⟩
theorem StB.draw (h : StB w b a l c r o n k aS cS L A C hi wx) (hO : OnlyB b wx wy) (hD : Dr wy b a l c) : StB w b a l c r o n k aS cS L A C hi wy :=
  h.frame hO.os hO.tape hO.output hO.size (fun q hq hn => hO.block q (Nat.lt_of_lt_of_le hq h.hiw) hn) hD.cur
theorem StB.below (h : StB w b a l c r o n k aS cS L A C hi wx) (hb : Below wx.heap.size wx wy) : StB w b a l c r o n k aS cS L A C hi wy :=
  h.frame hb.os hb.tape hb.output hb.size (fun q hq _ => hb.block q (Nat.lt_of_lt_of_le hq h.hiw)) (h.cur.below hb)
theorem StB.onlyG {g : Nat} (h : StB w b a l c r o n k aS cS L A C hi wx) (hO : OnlyB g wx wy) (hg : hi ≤ g) : StB w b a l c r o n k aS cS L A C hi wy := by
  have hbl := h.blt
  have e1 := h.rlo
  have e2 := h.ro
  have e3 := h.ohi
  have e4 := h.hiw
  refine h.frame hO.os hO.tape hO.output hO.size (fun q hq _ => hO.block q (by omega) (by omega)) ?_
  obtain ⟨i, x, hi', hr⟩ := h.cur
  exact ⟨i, x, hi', hr.of_heap (hO.block b hr.lt (by omega))⟩
theorem StB.ready (h : StB w b a l c r o n k aS cS L A C hi wx) : Dr wx b a l c := h.dr.keep h.only h.cur
theorem StB.rehi (h : StB w b a l c r o n k aS cS L A C hi wx) : StB w b a l c r o n k aS cS L A C wx.heap.size wx :=
  ⟨h.dr, h.rlo, h.ro, Nat.lt_of_lt_of_le h.ohi h.hiw, Nat.le_refl _, h.only, h.cur, h.res, h.box, h.own, fun x hx => ⟨(h.aSb x hx).1, Nat.lt_of_lt_of_le (h.aSb x hx).2 h.hiw⟩, h.len, fun i hi => by
    obtain ⟨⟨a1, a2, a3⟩, a4⟩ := h.rows i hi
    exact ⟨⟨a1, Nat.lt_of_lt_of_le a2 h.hiw, a3⟩, a4⟩⟩
theorem hvS_push (L : Rows) (A C : Nat → Nat) (k gl cl : Nat) (xs : List Int) (hl : L.length = k) : hvS (L ++ [xs]) (fun i => if i = k then gl else A i) (fun i => if i = k then cl else C i) (k + 1) = hvS L A C k ++ [.slice (some ⟨gl, 0, none⟩) xs.length cl] := by
  unfold hvS
  rw [List.range_succ, List.map_append]
  congr 1
  · refine List.map_congr_left fun i hi => ?_
    have hi' := List.mem_range.1 hi
    have e : lenN (L ++ [xs]) i = lenN L i := by unfold lenN rowN; simp [List.getD, List.getElem?_append, show i < L.length by omega]
    rw [e]
    simp only [if_neg (Nat.ne_of_lt hi')]
  · have e : lenN (L ++ [xs]) k = xs.length := by unfold lenN rowN; subst hl; simp [List.getD]
    simp only [List.map_cons, List.map_nil, if_true]
    rw [e]
theorem StB.push {w1 w5 : World} {gl cl g' c' : Nat} {xs : List Int} (h : StB w b a l c r o n k aS cS L A C hi wx) (hl : Row wx gl xs.length (ic xs)) (hgl : hi ≤ gl) (hcl : xs.length ≤ cl) (hok : rowOk n xs) (hb1 : Below wx.heap.size wx w1)
    (ho : Own1 w5 (o + 1) 31 g' (k + 1) c' (hvS L A C k ++ [.slice (some ⟨gl, 0, none⟩) xs.length cl])) (oa : OnlyA aS w1 w5) (hg : (∃ x, aS = some x ∧ g' = x.block) ∨ g' = w1.heap.size) :
    StB w b a l c r o n (k + 1) (some ⟨g', 0, none⟩) c' (L ++ [xs]) (fun i => if i = k then gl else A i) (fun i => if i = k then cl else C i) w5.heap.size (w5.setCell ⟨o, 0, none⟩ (.slice (some ⟨g', 0, none⟩) (k + 1) c')) := by
  have hbl := h.blt
  have e1 := h.rlo
  have e2 := h.ro
  have e3 := h.ohi
  have e4 := h.hiw
  have e5 := hb1.size
  have e6 := oa.size
  have e7 := ho.lt
  have e8 := hl.lt
  have keep : ∀ q, q < wx.heap.size → (∀ x, aS = some x → q ≠ x.block) → w5.heap[q]? = wx.heap[q]? := fun q hq hn => (oa.block q (by omega) hn).trans (hb1.block q hq)
  have low : ∀ q, q ≤ o → ∀ x, aS = some x → q ≠ x.block := fun q hq x hx => by have := (h.aSb x hx).1; omega
  have hgo : g' ≠ o := by
    rcases hg with ⟨x, hx, rfl⟩ | rfl
    · have := (h.aSb x hx).1; omega
    · omega
  have hglS : ∀ x, aS = some x → gl ≠ x.block := fun x hx => by have := (h.aSb x hx).2; omega
  have hglg : gl ≠ g' := by
    rcases hg with ⟨x, hx, rfl⟩ | rfl
    · exact hglS x hx
    · omega
  refine ⟨h.dr, h.rlo, h.ro, by omega, by simp, ?_, ?_, ?_, ?_, ?_, fun x hx => ?_, by rw [List.length_append, h.len]; rfl, fun i hi' => ?_⟩
  · refine OnlyB.setNew (p := ⟨o, 0, none⟩) ⟨oa.os.trans (hb1.os.trans h.only.os), oa.tape.trans (hb1.tape.trans h.only.tape), oa.output.trans (hb1.output.trans h.only.output), Nat.le_trans h.only.size (by omega), fun q hq hn => (keep q (by omega) (low q (by omega))).trans (h.only.block q hq hn)⟩ (by show w.heap.size ≤ o; omega) _
  · have hc : Cur w5 b a l c := by
      obtain ⟨i, x, hi', hr⟩ := h.cur
      exact ⟨i, x, hi', hr.of_heap (keep b hr.lt (low b (by omega)))⟩
    exact hc.set_other (p := ⟨o, 0, none⟩) (by show b ≠ o; omega) _
  · exact (h.res.of_heap (keep r h.res.lt (low r (by omega)))).set_other (p := ⟨o, 0, none⟩) (by show r ≠ o; omega) _
  · exact ((h.box.of_heap (keep o h.box.lt (low o (Nat.le_refl _)))).set 0 _).congr (fun i hi' => by have : i = 0 := (by omega); subst this; rfl)
  · rw [hvS_push L A C k gl cl xs h.len]
    exact OwnA.of1 (ho.set_other (p := ⟨o, 0, none⟩) hgo _)
  · simp only [Option.some.injEq] at hx
    subst hx
    exact ⟨by show o < g'; omega, by show g' < _; omega⟩
  · by_cases e : i = k
    · subst e
      have e9 : rowN (L ++ [xs]) i = xs := by unfold rowN; rw [← h.len]; simp [List.getD]
      unfold lenN
      rw [e9]
      simp only [if_true]
      refine ⟨⟨by omega, by omega, fun x hx => ?_⟩, hcl, hok, (hl.of_heap (keep gl e8 hglS)).set_other (p := ⟨o, 0, none⟩) (by show gl ≠ o; omega) _⟩
      simp only [Option.some.injEq] at hx
      subst hx
      exact hglg
    · obtain ⟨⟨a1, a2, a3⟩, a4, a5, a6⟩ := h.rows i (by omega)
      have e9 : rowN (L ++ [xs]) i = rowN L i := by unfold rowN; simp [List.getD, List.getElem?_append, show i < L.length by rw [h.len]; omega]
      unfold lenN at a4 a6 ⊢
      rw [e9]
      simp only [if_neg e]
      refine ⟨⟨a1, by omega, fun x hx => ?_⟩, a4, a5, (a6.of_heap (keep _ (by omega) a3)).set_other (p := ⟨o, 0, none⟩) (by show A i ≠ o; omega) _⟩
      simp only [Option.some.injEq] at hx
      subst hx
      show A i ≠ g'
      rcases hg with ⟨y, hy, rfl⟩ | rfl
      · exact a3 y hy
      · omega
theorem StB.rst (h : StB w b a l c r o n k aS cS L A C hi wx) : RSt wx aS k L := by
  refine ⟨fun i => some ⟨A i, 0, none⟩, C, ?_, fun i hi' => ?_⟩
  · refine h.own.row.congr fun i hi' => ?_
    unfold hvS
    simp [List.getD, hi']
  · obtain ⟨_, a4, _, a6⟩ := h.rows i hi'
    exact ⟨a4, .of_row a6⟩
theorem StB.fin (h : StB w b a l c r o n k aS cS L A C hi wx) (v : Value) : RSt (wx.setCell ⟨r, 0, none⟩ v) aS k L ∧ (∀ q, q < w.heap.size → ∀ u, RSt ((wx.setCell ⟨r, 0, none⟩ v).setCell ⟨q, 0, none⟩ u) aS k L) ∧ OnlyB b w (wx.setCell ⟨r, 0, none⟩ v) := by
  have hbl := h.blt
  have e1 := h.rlo
  have e2 := h.ro
  have ho := h.only.setNew (p := ⟨r, 0, none⟩) e1 v
  refine ⟨⟨fun i => some ⟨A i, 0, none⟩, C, ?_, fun i hi' => ?_⟩, fun q hq u => ⟨fun i => some ⟨A i, 0, none⟩, C, ?_, fun i hi' => ?_⟩, ho⟩
  · refine (h.own.set_other (p := ⟨r, 0, none⟩) (by show r < o + 1; omega) v).row.congr fun i hi' => ?_
    unfold hvS
    simp [List.getD, hi']
  · obtain ⟨⟨a1, _, _⟩, a4, _, a6⟩ := h.rows i hi'
    exact ⟨a4, .of_row (a6.set_other (by show A i ≠ r; omega) v)⟩
  · refine ((h.own.set_other (p := ⟨r, 0, none⟩) (by show r < o + 1; omega) v).set_other (p := ⟨q, 0, none⟩) (by show q < o + 1; omega) u).row.congr fun i hi' => ?_
    unfold hvS
    simp [List.getD, hi']
  · obtain ⟨⟨a1, _, _⟩, a4, _, a6⟩ := h.rows i hi'
    exact ⟨a4, .of_row ((a6.set_other (by show A i ≠ r; omega) v).set_other (by show A i ≠ q; omega) u)⟩
end
def goodL (n : Nat) (xs : List Int) : Prop := ∀ i, i < xs.length → goodAt n xs i
theorem take_has {xs : List Int} {q : Nat} (h : q < xs.length) (v : Int) : (xs.take (q + 1)).contains v = ((xs.take q).contains v || decide (xs.getD q 0 = v)) := by
  rw [List.take_succ_eq_append_getElem h, List.getD, List.getElem?_eq_getElem h]
  simp only [List.contains_append, Option.getD_some]
  congr 1
  by_cases e : xs[q] = v
  · simp [e]
  · have : ¬ v = xs[q] := fun h => e h.symm
    simp [e, this]
theorem goodL.push {n x : Nat} {xs : List Int} (h : goodL n xs) (hx : x < n) (hc : xs.contains (x : Int) = false) : goodL n (xs ++ [(x : Int)]) := by
  intro i hi
  rw [List.length_append, List.length_singleton] at hi
  by_cases e : i = xs.length
  · subst e
    have e1 : (xs ++ [(x : Int)]).getD xs.length 0 = (x : Int) := by simp [List.getD]
    refine ⟨by rw [e1]; omega, fun j hj => ?_⟩
    rw [e1]
    have e2 : (xs ++ [(x : Int)]).getD j 0 = xs.getD j 0 := by simp [List.getD, List.getElem?_append, hj]
    rw [e2]
    intro h3
    have : xs.contains (x : Int) = true := by
      rw [List.contains_iff_mem, ← h3, getD_at _ _ hj]
      exact List.getElem_mem _
    rw [hc] at this
    cases this
  · have hi' : i < xs.length := by omega
    have e2 : ∀ j, j < xs.length → (xs ++ [(x : Int)]).getD j 0 = xs.getD j 0 := fun j hj => by simp [List.getD, List.getElem?_append, hj]
    obtain ⟨h1, h2⟩ := h i hi'
    refine ⟨by rw [e2 i hi']; exact h1, fun j hj => ?_⟩
    rw [e2 i hi', e2 j (by omega)]
    exact h2 j hj
theorem Own1.capn {w : World} {B g n c : Nat} {e : TypeId} {xs : List Value} (h : Own1 w B e g n c xs) : n ≤ c := by
  rcases h.2 with hn | ⟨f, cap, cur, hv, hB, hgg, hcap, _⟩
  · simp at hn
  · simp only [Value.slice.injEq] at hv
    obtain ⟨_, _, rfl⟩ := hv
    exact hcap
theorem fz9 {w wx w1 w5 : World} {b l c r o n k cS hi : Nat} {a aS : Option Addr} {L : Rows} {A C : Nat → Nat} (h : StB w b a l c r o n k aS cS L A C hi wx) (hb1 : Below wx.heap.size wx w1) (oa : OnlyA aS w1 w5) : w5.cell? ⟨o, 0, none⟩ = some (.slice aS k cS) ∧ w5.frozen? ⟨o, 0, none⟩ = false := by
  have e3 := h.ohi
  have e4 := h.hiw
  have e5 := hb1.size
  have hr := (h.box.of_heap (hb1.block o (by omega))).of_heap (oa.block o (by omega) (fun x hx => by have := (h.aSb x hx).1; omega))
  exact ⟨hr.cell (i := 0) (by omega), hr.frozen 0⟩
def StoP (b : Nat) (a : Option Addr) (l c : Nat) (w : World) (e : Ending) (w' : World) : Prop :=
  ∃ (n : Nat) (aS : Option Addr) (cS : Nat) (L : Rows), e = .returned (.agg #[.slice aS n cS]) ∧ L.length = n ∧ storyOk n L ∧ RSt w' aS n L ∧ (∀ q, q < w.heap.size → ∀ v, RSt (w'.setCell ⟨q, 0, none⟩ v) aS n L) ∧ OnlyB b w w'
set_option maxHeartbeats 4000000 in
theorem story_any (b : Nat) (a : Option Addr) (l c : Nat) (w : World) (hD : Dr w b a l c) :
    Calls Try.prog 53 #[.pointer (some ⟨b, 0, none⟩)] w (StoP b a l c w) := by
  have hbw := hD.lt
  have hb0 : Below w.heap.size w ((w.alloc (.cells #[.slice none 0 0] 27 (0, 0))).alloc (.cells #[.slice none 0 0] 27 (0, 0))) := (Below.box w _).alloc (by simp) _
  have hz0 : ((w.alloc (.cells #[.slice none 0 0] 27 (0, 0))).alloc (.cells #[.slice none 0 0] 27 (0, 0))).heap.size = w.heap.size + 2 := by simp
  have HS0 : Hid (∀ n, StB w b a l c w.heap.size (w.heap.size + 1) n 0 none 0 [] (fun _ => 0) (fun _ => 0) (w.heap.size + 2) ((w.alloc (.cells #[.slice none 0 0] 27 (0, 0))).alloc (.cells #[.slice none 0 0] 27 (0, 0)))) := Lib.hid (fun n => by
    refine ⟨hD, Nat.le_refl _, by omega, by omega, by omega, (OnlyB.refl b w).belowB hb0 (Nat.le_refl _), hD.cur.below hb0, ?_, ?_, OwnA.nil _ _ _, (fun x hx => by cases hx), rfl, fun i hi => absurd hi (Nat.not_lt_zero i)⟩
    · exact ((Row.of_new w #[.slice none 0 0] 27).alloc _).congr (fun i hi => by have : i = 0 := (by simp at hi; omega); subst this; rfl)
    · have h1 := Row.of_new (w.alloc (.cells #[.slice none 0 0] 27 (0, 0))) #[.slice none 0 0] 27
      have h2 : (w.alloc (.cells #[.slice none 0 0] 27 (0, 0))).heap.size = w.heap.size + 1 := by simp
      rw [h2] at h1
      exact h1.congr (fun i hi => by have : i = 0 := (by simp at hi; omega); subst this; rfl))
  clear hD hb0 hz0
  go_enter Try.func53, Try.ntmps53
  go_wp2_with fail
  generalize (w.alloc (.cells #[.slice none 0 0] 27 (0, 0))).alloc (.cells #[.slice none 0 0] 27 (0, 0)) = wA at *
  generalize hr0 : w.heap.size = r at *
  have HRR := Lib.hid hr0
  clear hr0
  generalize ho0 : r + 1 = o at *
  have HOO := Lib.hid ho0
  clear ho0
  refine (below_any b a l c 9 _ (by omega) (HS0.out 1).ready).mono ?_
  rintro e w1 ⟨v, rfl, ⟨hu0, hu1, _⟩, hD1, hO1⟩
  have hu1' := hu1 (by omega)
  obtain ⟨n, hn⟩ : ∃ n : Nat, 1 + v = (n : Int) := ⟨(1 + v).toNat, by omega⟩
  have hn1 : 1 ≤ n := by omega
  have hn9 : n ≤ 9 := by omega
  have HS1 := Lib.hid ((HS0.out n).draw hO1 hD1)
  have HN := Lib.hid hn
  clear hD1 hO1 hu1 HS0 hn
  go_wp2_with fail
  rw [HN.out]
  clear HN hu0 hu1'
  refine (once_any b a l c 3 _ (by omega) HS1.out.ready).mono ?_
  rintro e w2 ⟨ci, rfl, hD2, hO2⟩
  have HS2 := Lib.hid (HS1.out.draw hO2 hD2)
  clear hD2 hO2 HS1
  go_wp2_with fail
  go_loopw [6] (fun i wr => ∃ (k cS hi : Nat) (aS : Option Addr) (L : Rows) (A C : Nat → Nat), k ≤ n ∧ i = .int .i64 k ∧ StB w b a l c r o n k aS cS L A C hi wr) (fun i _ => n - (intOf i).toNat)
  case atStart => exact ⟨0, 0, _, none, [], _, _, Nat.zero_le _, rfl, HS2.out⟩
  case round =>
    clear HS2
    obtain ⟨k, cS, hi, aS, L, A, C, hk, rfl, hs⟩ := hrel
    by_cases hlt : k < n
    · have hbx := Below.box wr (.cells #[] 3 (0, 0))
      have HS := Lib.hid (hs.rehi.below hbx)
      have HOW := Lib.hid (Own1.empty wr 3)
      have HSZ : Hid ((wr.alloc (.cells #[] 3 (0, 0))).heap.size = wr.heap.size + 1) := Lib.hid (by simp)
      have hbwr : b < wr.heap.size := by have := hs.blt; have := hs.only.size; omega
      have i0 : (0 : Int) ≤ (k : Int) := Int.natCast_nonneg _
      clear hbx hs
      go_wp2_with fail
      generalize hH : wr.heap.size = H at *
      generalize wr.alloc (.cells #[] 3 (0, 0)) = w3 at *
      refine (below_any b a l c 4 _ (by omega) HS.out.ready).mono ?_
      rintro e w4 ⟨v, rfl, ⟨hu0, hu1, _⟩, hD4, hO4⟩
      have hu1' := hu1 (by omega)
      obtain ⟨m0, rfl⟩ : ∃ m : Nat, v = (m : Int) := ⟨v.toNat, by omega⟩
      have hm3 : m0 ≤ 3 := by omega
      have HS4 := Lib.hid (HS.out.draw hO4 hD4)
      have HOW4 := Lib.hid (HOW.out.keep hO4 (by omega))
      clear hD4 hO4 hu1 hu0 hu1' HS HOW HSZ hH
      go_wp2_with fail
      rename World => wo
      go_loopw [7, 8] (fun s i wi => ∃ (m gl cl : Nat) (xs : List Int), i = .int .i64 m ∧ s = .slice (some ⟨gl, 0, none⟩) xs.length cl ∧ xs.length + m ≤ 3 ∧ goodL n xs ∧ Own1 wi H 3 gl xs.length cl (xs.map (Value.int .i64)) ∧ StB w b a l c r o n k aS cS L A C H wi) (fun _ i _ => (intOf i).toNat)
      case atStart => exact ⟨m0, H, 0, [], rfl, rfl, by simp; omega, fun i hi => absurd hi (Nat.not_lt_zero i), HOW4.out, HS4.out⟩
      case round =>
        clear HS4 HOW4
        rename World => wi
        obtain ⟨m, gl, cl, xs, rfl, rfl, hxm, hgd, how, hs⟩ := hrel
        have HGD := Lib.hid hgd
        have HOW := Lib.hid how
        have HS := Lib.hid hs
        have hgl := how.lt
        clear hgd how hs
        by_cases hm0 : 0 < m
        · obtain ⟨m', rfl⟩ : ∃ m', m = m' + 1 := ⟨m - 1, by omega⟩
          have t1 : decide (((m' + 1 : Nat) : Int) > 0) = true := decide_eq_true (by omega)
          have t1' : (0 : Int) < ((m' + 1 : Nat) : Int) := by omega
          have HM1 : Hid (IntKind.i64.wrap (((m' + 1 : Nat) : Int) - 1) = (m' : Int) ∧ wrap64 (((m' + 1 : Nat) : Int) - 1) = (m' : Int)) := Lib.hid (by
            rw [show ((m' + 1 : Nat) : Int) - 1 = (m' : Int) by omega]
            exact ⟨IntWalk.i64_in _ (by omega), IntWalk.wrap64_in _ (by omega)⟩)
          generalize hmm : m' + 1 = m at *
          have HMM := Lib.hid hmm
          clear hmm
          go_wp2_with fail
          refine (below_any b a l c 4 _ (by omega) HS.out.ready).mono ?_
          rintro e w5 ⟨v, rfl, ⟨hu0, hu1, _⟩, hD5, hO5⟩
          have hu1' := hu1 (by omega)
          obtain ⟨x0, hx0⟩ : ∃ x : Nat, (k : Int) + 1 + v = (x : Int) := ⟨((k : Int) + 1 + v).toNat, by omega⟩
          have hx12 : x0 ≤ 20 := by omega
          have HS5 := Lib.hid (HS.out.draw hO5 hD5)
          have HOW5 := Lib.hid (HOW.out.keep hO5 (by omega))
          have s1 : IntKind.i64.wrap ((k : Int) + 1 + v) = (x0 : Int) := by rw [hx0]; exact IntWalk.i64_in _ (by omega)
          have s1' : wrap64 ((k : Int) + 1 + v) = (x0 : Int) := by rw [hx0]; exact IntWalk.wrap64_in _ (by omega)
          have HX0 := Lib.hid hx0
          clear hD5 hO5 hu1 HS HOW hx0
          go_upto_region 12 with (fail)
          clear s1 s1'
          rename_i kB nxtB kA nxtA
          go_cut [39] (fun v wx => ∃ ob : Bool, v = .bool ob ∧ StB w b a l c r o n k aS cS L A C H wx ∧ Own1 wx H 3 gl xs.length cl (xs.map (Value.int .i64)))
          case first =>
            cases ci
            · go_wp2_with fail
              go_meet
              case rel => exact ⟨false, rfl, HS5.out, HOW5.out⟩
            · go_wp2_with fail
              refine (once_any b a l c 4 _ (by omega) HS5.out.ready).mono ?_
              rintro e w6 ⟨ob, rfl, hD6, hO6⟩
              have HS6 := Lib.hid (HS5.out.draw hO6 hD6)
              have HOW6 := Lib.hid (HOW5.out.keep hO6 (by omega))
              clear hD6 hO6
              go_wp2_with fail
              go_meet
              case rel => exact ⟨ob, rfl, HS6.out, HOW6.out⟩
          case rest =>
            refine nxtA _ _ ?_
            obtain ⟨ob, rfl, hs, how⟩ := hcut
            rename World => wj
            have HS6 := Lib.hid hs
            have HOW6 := Lib.hid how
            clear hs how HS5 HOW5
            go_cut [9] (fun v wx => ∃ x : Nat, v = .int .i64 (x : Int) ∧ x ≤ 20 ∧ StB w b a l c r o n k aS cS L A C H wx ∧ Own1 wx H 3 gl xs.length cl (xs.map (Value.int .i64)))
            case first =>
              cases ob
              · go_wp2_with fail
                go_meet
                case rel => exact ⟨x0, rfl, hx12, HS6.out, HOW6.out⟩
              · go_wp2_with fail
                refine (below_any b a l c n _ (by omega) HS6.out.ready).mono ?_
                rintro e w7 ⟨v7, rfl, ⟨hv0, hv1, _⟩, hD7, hO7⟩
                have hv1' := hv1 (by omega)
                obtain ⟨x7, rfl⟩ : ∃ x : Nat, v7 = (x : Int) := ⟨v7.toNat, by omega⟩
                have HS7 := Lib.hid (HS6.out.draw hO7 hD7)
                have HOW7 := Lib.hid (HOW6.out.keep hO7 (by omega))
                clear hD7 hO7 hv1
                go_wp2_with fail
                go_meet
                case rel => exact ⟨x7, rfl, by omega, HS7.out, HOW7.out⟩
            case rest =>
              refine nxtB _ _ ?_
              obtain ⟨x, rfl, hx20, hs, how⟩ := hcut
              rename World => wq
              have HS8 := Lib.hid hs
              have HOW8 := Lib.hid how
              have hglq := how.lt
              clear hs how HS6 HOW6
              have i3 : xs.length ≤ 3 := by omega
              have HG : Hid (decide ((x : Int) ≥ (n : Int)) = decide (n ≤ x)) := Lib.hid (by
                by_cases h : n ≤ x
                · rw [decide_eq_true h, decide_eq_true (by omega)]
                · rw [decide_eq_false h, decide_eq_false (by omega)])
              go_wp2_with fail
              go_loop [10, 11] (fun kn i => ∃ q : Nat, q ≤ xs.length ∧ i = .int .i64 q ∧ kn = .bool (decide (n ≤ x) || (xs.take q).contains (x : Int))) (fun _ i => xs.length - (intOf i).toNat)
              case atStart => exact ⟨0, Nat.zero_le _, rfl, by rw [← HG.out, List.take_zero]; simp⟩
              case round =>
                obtain ⟨q, hq, rfl, rfl⟩ := hrel
                by_cases hlq : q < xs.length
                · have HT := Lib.hid (take_has hlq (x : Int))
                  have c0 := HOW8.out.cells.cell hlq
                  unfold ic at c0
                  have j0 : (0 : Int) ≤ (q : Int) := Int.natCast_nonneg _
                  have j1 : (q : Int) < (xs.length : Int) := by omega
                  cases hkn : (decide (n ≤ x) || (xs.take q).contains (x : Int))
                  · have HV : Hid ((decide (n ≤ x) || (xs.take (q + 1)).contains (x : Int)) = decide (xs.getD q 0 = (x : Int))) := Lib.hid (by rw [HT.out, ← Bool.or_assoc, hkn, Bool.false_or])
                    clear hkn HT
                    generalize xs.getD q 0 = y at *
                    by_cases hy : y = (x : Int)
                    · have HV2 : Hid ((decide (n ≤ x) || (xs.take (q + 1)).contains (x : Int)) = true) := Lib.hid (by rw [HV.out]; exact decide_eq_true hy)
                      have e1 : (y == (x : Int)) = true := by rw [hy]; simp
                      clear HV hy
                      go_wp2
                      go_round
                      case rel => exact ⟨q + 1, by omega, by go_num, by rw [HV2.out]⟩
                      case measure => simp [intOf]; omega
                    · have HV2 : Hid ((decide (n ≤ x) || (xs.take (q + 1)).contains (x : Int)) = false) := Lib.hid (by rw [HV.out]; exact decide_eq_false hy)
                      have e1 : (y == (x : Int)) = false := by simpa using hy
                      clear HV hy
                      go_wp2
                      go_round
                      case rel => exact ⟨q + 1, by omega, by go_num, by rw [HV2.out]⟩
                      case measure => simp [intOf]; omega
                  · have HV2 : Hid ((decide (n ≤ x) || (xs.take (q + 1)).contains (x : Int)) = true) := Lib.hid (by rw [HT.out, ← Bool.or_assoc, hkn, Bool.true_or])
                    clear hkn HT c0
                    go_wp2
                    go_round
                    case rel => exact ⟨q + 1, by omega, by go_num, by rw [HV2.out]⟩
                    case measure => simp [intOf]; omega
                · have hq' : q = xs.length := by omega
                  have hqn : ¬ (q : Int) < (xs.length : Int) := by omega
                  have HTK : Hid (xs.take q = xs) := Lib.hid (by rw [hq', List.take_length])
                  rw [HTK.out]
                  clear hq' HTK
                  cases hkn : (decide (n ≤ x) || xs.contains (x : Int))
                  · have hxn : x < n := by
                      rw [Bool.or_eq_false_iff] at hkn
                      have := of_decide_eq_false hkn.1
                      omega
                    have HGN := Lib.hid (HGD.out.push hxn (by rw [Bool.or_eq_false_iff] at hkn; exact hkn.2))
                    clear hkn
                    have hbx := Below.box wq (.cells #[.int .i64 (x : Int)] 3 (0, 0))
                    have HOX := Lib.hid (HOW8.out.below hbx)
                    have HSX := Lib.hid (HS8.out.below hbx)
                    have HCX : Hid ((wq.alloc (.cells #[.int .i64 (x : Int)] 3 (0, 0))).cell? ⟨wq.heap.size, 0, none⟩ = some (.int .i64 (x : Int))) := Lib.hid (new_cell rfl)
                    clear hbx
                    obtain ⟨z1, z1'⟩ := HM1.out
                    go_wp2_with (at_builtin; refine append_one rfl _ _ 31 rfl Try.underlying31 infoInt rfl (by omega) rfl HOX.out (by omega) rfl HCX.out rfl ?_; intro g' c' w9 o9 oo9 l9; have O9 := Lib.hid o9; have OO9 := Lib.hid oo9; clear o9 oo9 l9)
                    clear z1 z1'
                    have HS9 := Lib.hid (HSX.out.onlyG OO9.out hglq.1)
                    have O10 : Hid (Own1 w9 H 3 g' (xs ++ [(x : Int)]).length c' ((xs ++ [(x : Int)]).map (Value.int .i64))) := Lib.hid (by rw [List.map_append, List.length_append]; exact O9.out)
                    go_roundw
                    case rel => exact ⟨m', g', c', xs ++ [(x : Int)], by first | rfl | (congr 1; have := HMM.out; omega), by rw [List.length_append]; rfl, by rw [List.length_append, List.length_singleton]; have := HMM.out; omega, HGN.out, O10.out, HS9.out⟩
                    case measure => have := HMM.out; simp [intOf]; omega
                  · clear hkn
                    obtain ⟨z1, z1'⟩ := HM1.out
                    go_wp2
                    clear z1 z1'
                    go_roundw
                    case rel => exact ⟨m', gl, cl, xs, by first | rfl | (congr 1; have := HMM.out; omega), rfl, by have := HMM.out; omega, HGD.out, HOW8.out, HS8.out⟩
                    case measure => have := HMM.out; simp [intOf]; omega
        · have hm' : m = 0 := by omega
          subst hm'
          have t1 : decide (((0 : Nat) : Int) > 0) = false := by decide
          have hrow := HOW.out.cells
          have hcl := HOW.out.capn
          have p0 := HS.out.box.cell (i := 0) (by omega)
          have hbx := Below.box wi (.cells #[.slice (some ⟨gl, 0, none⟩) xs.length cl] 31 (0, 0))
          have HHD : Hid (OwnA (wi.alloc (.cells #[.slice (some ⟨gl, 0, none⟩) xs.length cl] 31 (0, 0))) (o + 1) 31 aS k cS (hvS L A C k)) := Lib.hid (HS.out.own.below hbx)
          have HCX : Hid ((wi.alloc (.cells #[.slice (some ⟨gl, 0, none⟩) xs.length cl] 31 (0, 0))).cell? ⟨wi.heap.size, 0, none⟩ = some (.slice (some ⟨gl, 0, none⟩) xs.length cl)) := Lib.hid (new_cell rfl)
          have hsb := HS.out.hiw
          have hso := HS.out.ohi
          have hB : o + 1 ≤ (wi.alloc (.cells #[.slice (some ⟨gl, 0, none⟩) xs.length cl] 31 (0, 0))).heap.size := by simp; omega
          have HBX := Lib.hid hbx
          have HROW := Lib.hid hrow
          have HRK : Hid (rowOk n xs) := Lib.hid ⟨by omega, HGD.out⟩
          have hmi : (0 : Int) < 0 ↔ False := by simp
          clear hbx hrow
          go_wp2_with (at_builtin; refine append_n rfl (.tmp 68) (.tmp 70) 22 rfl Try.underlying22 infoRow rfl (by omega) (by simp [Act.eval]) HHD.out hB (by omega) (by simp [Act.eval]) HCX.out rfl ?_; intro g' c' w9 o9 oa9 l9; have HP := Lib.hid (HS.out.push HROW.out hgl.1 hcl HRK.out HBX.out o9 oa9 l9); have f9 : w9.frozen? ⟨o, 0, none⟩ = false := (fz9 HS.out HBX.out oa9).2; have b9 : w9.cell? ⟨o, 0, none⟩ = some (.slice aS k cS) := (fz9 HS.out HBX.out oa9).1; clear o9 oa9 l9)
          go_roundw
          case rel => exact ⟨k + 1, c', _, _, _, _, _, by omega, by go_num, HP.out⟩
          case measure => simp [intOf]; omega
    · have hk' : n = k := by omega
      subst hk'
      have i1 : ¬ (n : Int) < (n : Int) := by omega
      have p0 := hs.box.cell (i := 0) (by omega)
      have q0 := hs.res.cell (i := 0) (by omega)
      have fq := hs.res.frozen 0
      have HOK : Hid (storyOk n L) := Lib.hid ⟨by omega, fun k hk => (hs.rows k hk).2.2.1⟩
      have HF := Lib.hid (hs.fin (.slice aS n cS))
      have HLN := Lib.hid hs.len
      clear hs
      go_wp2
      refine bodyPost_ret (v := .agg #[.slice aS n cS]) (by simp [results, Try.results53, go_sem, q0]) rfl ⟨n, aS, cS, L, rfl, HLN.out, HOK.out, HF.out⟩
def DStoP (w : World) (e : Ending) (w' : World) : Prop :=
  ∃ (n : Nat) (aS : Option Addr) (cS : Nat) (L : Rows), e = .returned (.agg #[.slice aS n cS]) ∧ L.length = n ∧ storyOk n L ∧ RSt w' aS n L ∧ Below w.heap.size w w'
set_option maxHeartbeats 1000000 in
theorem drawStory_any (a : Option Addr) (l c : Nat) (w : World) (hm : l ≤ 1048576) (hY : Bytes w a l) :
    Calls Try.prog 33 #[.slice a l c] w (DStoP w) := by
  have B0 := Below.box w (.cells #[.slice none 0 0] 27 (0, 0))
  have HY := Lib.hid (hY.below B0)
  have P0 := Lib.hid (((Row.of_new w #[.slice none 0 0] 27).congr (fun i hi => by have : i = 0 := (by simp at hi; omega); subst this; rfl) : Row _ w.heap.size 1 (fun _ => .slice none 0 0)))
  have HB0 := Lib.hid B0
  clear hY B0
  go_enter Try.func33, Try.ntmps33
  go_wp2_with fail
  refine (new_any a l c _ hm HY.out).mono ?_
  rintro e w1 ⟨b, rfl, hb, hD, hBe⟩
  simp only [World.size_alloc] at hb
  have HD := Lib.hid hD
  have P1 := Lib.hid (P0.out.below hBe P0.out.lt)
  have HB1 := Lib.hid (HB0.out.trans (hBe.mono HB0.out.size))
  have z1 := hBe.size
  simp only [World.size_alloc] at z1
  clear hD hBe P0
  go_wp2_with fail
  refine (story_any b a l c _ HD.out).mono ?_
  rintro e w2 ⟨n, aS, cS, L, rfl, hl, hok, hr, hlow, hO⟩
  have hb1 := HD.out.lt
  have P2 := Lib.hid (hO.row P1.out (by omega))
  have HB2 := Lib.hid (HB1.out.trans (hO.toBelow (B := w.heap.size) (by omega) (by omega)))
  have HL := Lib.hid hl
  have HOK := Lib.hid hok
  have hq1 : w.heap.size < w1.heap.size := Nat.lt_of_lt_of_le (Nat.lt_succ_self _) z1
  have HR := Lib.hid (hlow w.heap.size hq1 (.slice aS n cS))
  have q0 := P2.out.cell (i := 0) (Nat.one_pos : 0 < 1)
  have fq := P2.out.frozen 0
  clear hl hok hr hO hlow
  go_wp2
  refine bodyPost_ret (v := .agg #[.slice aS n cS]) (by simp [results, Try.results33, go_sem, q0]) rfl ⟨n, aS, cS, L, rfl, HL.out, HOK.out, HR.out, HB2.out.setCell (p := ⟨w.heap.size, 0, none⟩) (by simp) _⟩
end Go.Proofs.Ytjnjlpljakkakaa
