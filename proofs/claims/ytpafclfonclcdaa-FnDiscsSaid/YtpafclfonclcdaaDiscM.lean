/-
  What the walk of the law of discs holds: the boxes of its discs and their pictures.
  By an AI agent.
-/
import Derived.Test.YtpafclfonclcdaaDrawD
import Derived.Test.YtpafclfonclcdaaAt
namespace Go.Proofs.Ytpafclfonclcdaa
open Go.ChangeShapes Go.WideShapes Go.ChangeAt Go.RowKit
set_option maxRecDepth 100000
set_option linter.unusedVariables false

theorem turned_nat {n f q : Nat} {zs : List Int} (ho : discOkB n f zs = true) (hq : q ≤ 1000) : turned n f q zs = (((f + q) % n : Nat) : Int) := by
  unfold turned
  rw [if_pos ⟨ho, inB_iff.2 (by omega)⟩]
  simp
theorem turned_int {n f : Nat} {x : Int} {zs : List Int} (ho : discOkB n f zs = true) (hx : -1000 ≤ x ∧ x ≤ 1000) : ∃ F : Nat, F < n ∧ turned n f x zs = (F : Int) ∧ ((f : Int) + x) % (n : Int) = (F : Int) := by
  obtain ⟨⟨q1, q2, q3, q4, q5⟩, _⟩ := discOk_iff.1 ho
  have h0 := Int.emod_nonneg ((f : Int) + x) (show (n : Int) ≠ 0 by omega)
  have h1 := Int.emod_lt_of_pos ((f : Int) + x) (show (0 : Int) < (n : Int) by omega)
  refine ⟨(((f : Int) + x) % (n : Int)).toNat, by omega, ?_, by omega⟩
  unfold turned
  rw [if_pos ⟨ho, inB_iff.2 hx⟩]
  omega
theorem ok_turn {n f F : Nat} {zs : List Int} (ho : discOkB n f zs = true) (hF : F < n) : discOkB n F zs = true := by
  obtain ⟨⟨q1, q2, q3, q4, q5⟩, h⟩ := discOk_iff.1 ho
  exact discOk_iff.2 ⟨⟨q1, q2, by omega, by omega, q5⟩, h⟩
theorem w64s (x : Nat) (h : x ≤ 25600) : wrap64 (x : Int) = (x : Int) := IntWalk.wrap64_in _ (by omega)
theorem i64s (x : Nat) (h : x ≤ 25600) : IntKind.i64.wrap (x : Int) = (x : Int) := IntWalk.i64_in _ (by omega)
structure DSt (w : World) (P Q n f cS m f' cT g gT : Nat) (zs ys : List Int) (wx : World) : Prop where
  p : Row wx P 3 (tri (.int .i64 n) (.int .i64 f) (.slice (some ⟨g, 0, none⟩) n cS))
  q : Row wx Q 3 (tri (.int .i64 m) (.int .i64 f') (.slice (some ⟨gT, 0, none⟩) m cT))
  d : Row wx g n (ic zs)
  e : Row wx gT m (ic ys)
  b : Below w.heap.size w wx
theorem DSt.below {w wx wy : World} {P Q n f cS m f' cT g gT : Nat} {zs ys : List Int} (h : DSt w P Q n f cS m f' cT g gT zs ys wx) (hb : Below wx.heap.size wx wy) : DSt w P Q n f cS m f' cT g gT zs ys wy :=
  ⟨h.p.below hb h.p.lt, h.q.below hb h.q.lt, h.d.below hb h.d.lt, h.e.below hb h.e.lt, h.b.trans (hb.mono h.b.size)⟩
structure DSu (w : World) (P Q T n f cS m f' cT F cU g gT gU : Nat) (zs ys : List Int) (wx : World) : Prop where
  s : DSt w P Q n f cS m f' cT g gT zs ys wx
  t : Row wx T 3 (tri (.int .i64 n) (.int .i64 F) (.slice (some ⟨gU, 0, none⟩) n cU))
  u : Row wx gU n (ic zs)
theorem DSu.below {w wx wy : World} {P Q T n f cS m f' cT F cU g gT gU : Nat} {zs ys : List Int} (h : DSu w P Q T n f cS m f' cT F cU g gT gU zs ys wx) (hb : Below wx.heap.size wx wy) : DSu w P Q T n f cS m f' cT F cU g gT gU zs ys wy :=
  ⟨h.s.below hb, h.t.below hb h.t.lt, h.u.below hb h.u.lt⟩
section
variable {w wx : World} {P Q T n f cS m f' cT F cU g gT gU : Nat} {zs ys : List Int}
theorem DSt.pc (h : DSt w P Q n f cS m f' cT g gT zs ys wx) : wx.cell? ⟨P, 0, none⟩ = some (.int .i64 n) ∧ wx.cell? ⟨P, 1, none⟩ = some (.int .i64 f) ∧ wx.cell? ⟨P, 2, none⟩ = some (.slice (some ⟨g, 0, none⟩) n cS) := h.p.tri3.1
theorem DSt.qc (h : DSt w P Q n f cS m f' cT g gT zs ys wx) : wx.cell? ⟨Q, 0, none⟩ = some (.int .i64 m) ∧ wx.cell? ⟨Q, 1, none⟩ = some (.int .i64 f') ∧ wx.cell? ⟨Q, 2, none⟩ = some (.slice (some ⟨gT, 0, none⟩) m cT) := h.q.tri3.1
theorem DSu.tc (h : DSu w P Q T n f cS m f' cT F cU g gT gU zs ys wx) : wx.cell? ⟨T, 0, none⟩ = some (.int .i64 n) ∧ wx.cell? ⟨T, 1, none⟩ = some (.int .i64 F) ∧ wx.cell? ⟨T, 2, none⟩ = some (.slice (some ⟨gU, 0, none⟩) n cU) := h.t.tri3.1
/-- What a drawn region holds: the first disc's cells. -/
def DS3 (w : World) (P Q T n f cS m f' cT F cU g gT gU : Nat) (zs ys : List Int) (wx : World) : Prop :=
  (wx.cell? ⟨P, 0, none⟩ = some (.int .i64 n) ∧ wx.cell? ⟨P, 1, none⟩ = some (.int .i64 f) ∧ wx.cell? ⟨P, 2, none⟩ = some (.slice (some ⟨g, 0, none⟩) n cS)) ∧ Hid (DSu w P Q T n f cS m f' cT F cU g gT gU zs ys wx)
theorem DS3.of (h : DSu w P Q T n f cS m f' cT F cU g gT gU zs ys wx) : DS3 w P Q T n f cS m f' cT F cU g gT gU zs ys wx := ⟨h.s.pc, Lib.hid h⟩
theorem DS3.next {wy : World} (h : DS3 w P Q T n f cS m f' cT F cU g gT gU zs ys wx) (hb : Below wx.heap.size wx wy) : DS3 w P Q T n f cS m f' cT F cU g gT gU zs ys wy := .of (h.2.out.below hb)
end
theorem iTurns_zero (n f k c : Nat) (pic : Int) (a : Option Addr) (zs : List Int) (w : World) (hl : zs.length = n) (hR : SlR w a n (ic zs)) (ho : discOkB n f zs = true) (hk : k < n) (hp : shownP zs n f k = pic) :
    Calls Try.prog 14 #[.agg #[.int .i64 n, .int .i64 f, .slice a n c], .int .i64 k, .int .i64 pic] w fun e w' => e = .returned (.int .i64 0) ∧ Below w.heap.size w w' :=
  (iTurns_yes n f k c pic a zs w hl hR ho hk).mono (by
    rintro e w' ⟨r, rfl, h, hb⟩
    refine ⟨?_, hb⟩
    unfold shownP at hp
    rcases h with ⟨t, ht, rfl, _, hno⟩ | ⟨rfl, hno⟩
    · rcases Nat.eq_zero_or_pos t with h0 | h0
      · subst h0; rfl
      · exact absurd hp (hno 0 h0)
    · exact absurd hp (hno 0 (by omega)))
theorem iTurns_none (n f k c : Nat) (pic : Int) (a : Option Addr) (zs : List Int) (w : World) (hl : zs.length = n) (hR : SlR w a n (ic zs)) (ho : discOkB n f zs = true) (hk : k < n) (hp : ∀ j, j < n → zs.getD j 0 ≠ pic) :
    Calls Try.prog 14 #[.agg #[.int .i64 n, .int .i64 f, .slice a n c], .int .i64 k, .int .i64 pic] w fun e w' => e = .returned (.int .i64 (-1)) ∧ Below w.heap.size w w' :=
  (iTurns_yes n f k c pic a zs w hl hR ho hk).mono (by
    rintro e w' ⟨r, rfl, h, hb⟩
    refine ⟨?_, hb⟩
    rcases h with ⟨t, ht, rfl, hz, _⟩ | ⟨rfl, _⟩
    · exact absurd hz (hp _ (Nat.mod_lt _ (by omega)))
    · rfl)
theorem iTurns_first (n f k c : Nat) (z : Int) (a : Option Addr) (zs : List Int) (w : World) (hl : zs.length = n) (hR : SlR w a n (ic zs)) (ho : discOkB n f zs = true) (hk : k < n) (hz0 : zs.getD 0 0 = z) :
    Calls Try.prog 14 #[.agg #[.int .i64 n, .int .i64 f, .slice a n c], .int .i64 k, .int .i64 z] w fun e w' => (∃ t : Nat, e = .returned (.int .i64 t) ∧ t < n ∧ shownP zs n ((f + t) % n) k = z) ∧ Below w.heap.size w w' :=
  (iTurns_yes n f k c _ a zs w hl hR ho hk).mono (by
    rintro e w' ⟨r, rfl, h, hb⟩
    refine ⟨?_, hb⟩
    rcases h with ⟨t, ht, rfl, hz, _⟩ | ⟨rfl, hno⟩
    · refine ⟨t, rfl, ht, ?_⟩
      unfold shownP
      rw [Nat.mod_add_mod]
      exact hz
    · obtain ⟨t, ht, h0⟩ := first_shown (n := n) (f := f) (k := k) (by omega)
      exact absurd (by rw [h0]; exact hz0) (hno t ht))
section
variable {w wx : World} {P Q T n f cS m f' cT F cU g gT gU : Nat} {zs ys : List Int}
/-- The same with the pictures at 0 and at i, and a cell of a further box at B. -/
def DS4 (w : World) (P Q T n f cS m f' cT F cU g gT gU : Nat) (zs ys : List Int) (i : Nat) (x z : Int) (wx : World) : Prop :=
  (wx.cell? ⟨P, 0, none⟩ = some (.int .i64 n) ∧ wx.cell? ⟨P, 1, none⟩ = some (.int .i64 f) ∧ wx.cell? ⟨P, 2, none⟩ = some (.slice (some ⟨g, 0, none⟩) n cS) ∧ wx.cell? ⟨g, 0, none⟩ = some (.int .i64 z) ∧ wx.cell? ⟨g, i, none⟩ = some (.int .i64 x)) ∧ Hid (DSu w P Q T n f cS m f' cT F cU g gT gU zs ys wx)
theorem DS4.of {i : Nat} {x z : Int} (hn : 0 < n) (hi : i < n) (hx : zs.getD i 0 = x) (hz : zs.getD 0 0 = z) (h : DSu w P Q T n f cS m f' cT F cU g gT gU zs ys wx) : DS4 w P Q T n f cS m f' cT F cU g gT gU zs ys i x z wx := by
  obtain ⟨a, b, c⟩ := h.s.pc
  refine ⟨⟨a, b, c, ?_, ?_⟩, Lib.hid h⟩
  · rw [h.s.d.cell hn]; unfold ic; rw [hz]
  · rw [h.s.d.cell hi]; unfold ic; rw [hx]
theorem DS4.next {wy : World} {i : Nat} {x z : Int} (hn : 0 < n) (hi : i < n) (hx : zs.getD i 0 = x) (hz : zs.getD 0 0 = z) (h : DS4 w P Q T n f cS m f' cT F cU g gT gU zs ys i x z wx) (hb : Below wx.heap.size wx wy) : DS4 w P Q T n f cS m f' cT F cU g gT gU zs ys i x z wy :=
  .of hn hi hx hz (h.2.out.below hb)
def DS5 (w : World) (P Q T n f cS m f' cT F cU g gT gU : Nat) (zs ys : List Int) (i : Nat) (x z : Int) (B gB cB : Nat) (wx : World) : Prop :=
  (wx.cell? ⟨P, 0, none⟩ = some (.int .i64 n) ∧ wx.cell? ⟨P, 1, none⟩ = some (.int .i64 f) ∧ wx.cell? ⟨P, 2, none⟩ = some (.slice (some ⟨g, 0, none⟩) n cS) ∧ wx.cell? ⟨g, 0, none⟩ = some (.int .i64 z) ∧ wx.cell? ⟨g, i, none⟩ = some (.int .i64 x) ∧ wx.cell? ⟨B, 1, none⟩ = some (.int .i64 f)) ∧ Hid (DSu w P Q T n f cS m f' cT F cU g gT gU zs ys wx ∧ Row wx B 3 (tri (.int .i64 n) (.int .i64 f) (.slice (some ⟨gB, 0, none⟩) n cB)))
theorem DS5.of {i B gB cB : Nat} {x z : Int} (hn : 0 < n) (hi : i < n) (hx : zs.getD i 0 = x) (hz : zs.getD 0 0 = z) (h : DSu w P Q T n f cS m f' cT F cU g gT gU zs ys wx) (hb : Row wx B 3 (tri (.int .i64 n) (.int .i64 f) (.slice (some ⟨gB, 0, none⟩) n cB))) : DS5 w P Q T n f cS m f' cT F cU g gT gU zs ys i x z B gB cB wx := by
  obtain ⟨⟨a, b, c, d, e⟩, _⟩ := DS4.of hn hi hx hz h
  exact ⟨⟨a, b, c, d, e, hb.tri3.1.2.1⟩, Lib.hid ⟨h, hb⟩⟩
theorem DS5.next {wy : World} {i B gB cB : Nat} {x z : Int} (hn : 0 < n) (hi : i < n) (hx : zs.getD i 0 = x) (hz : zs.getD 0 0 = z) (h : DS5 w P Q T n f cS m f' cT F cU g gT gU zs ys i x z B gB cB wx) (hb : Below wx.heap.size wx wy) : DS5 w P Q T n f cS m f' cT F cU g gT gU zs ys i x z B gB cB wy :=
  .of hn hi hx hz (h.2.out.1.below hb) (h.2.out.2.below hb h.2.out.2.lt)
end
end Go.Proofs.Ytpafclfonclcdaa
