/-
  A slice of cuts that comes in, opened, and the contract of toCutS: it copies them into a new row.
  By an AI agent.
-/
import Derived.Test.YtlplfpoggifadaaCut
import Derived.Test.YtlplfpoggifadaaSlices
import Derived.Deep.Slices
import Derived.Deep.Fields
import Derived.ChangeSame
namespace Go.Proofs.Ytlplfpoggifadaa
open Go.ChangeShapes Go.WideShapes Go.ChangeAt Go.RowKit Go.Joins Go.Deep
set_option maxRecDepth 100000

instance : Inhabited DCut := ⟨⟨0, 0, 0⟩⟩
/-- A slice of cuts that came in. -/
structure DS_Cut where
  a : Option Addr
  len : Nat
  cap : Nat
  ps : List DCut
def DS_Cut.val (x : DS_Cut) : Value := .slice x.a x.len x.cap
/-- The cells of cuts at an address. -/
def CCells (w : World) (b off : Nat) (ps : List DCut) : Prop := ∀ i, i < ps.length →
  w.cell? ⟨b, off + i * 3, none⟩ = some (.int .i64 (ps.getD i default).k) ∧ w.cell? ⟨b, off + i * 3 + 1, none⟩ = some (.int .i64 (ps.getD i default).g) ∧ w.cell? ⟨b, off + i * 3 + 2, none⟩ = some (.int .i64 (ps.getD i default).s)
def DS_Cut.good (x : DS_Cut) (w : World) : Prop := x.ps.length = x.len ∧ (∀ p ∈ x.ps, p.good w) ∧ x.len ≤ maxLen ∧ (0 < x.len → ∃ b off, x.a = some ⟨b, off, none⟩ ∧ CCells w b off x.ps)
section
variable {H : Type} {enc : TypeId × Value → H} {w : World} {r : Reach} {b0 base : Nat} {held : Bool}
theorem open_S_Cut {v : Value} {d : DataW H} {p : List MemPlace}
    (hv : Value.okWide Try.prog w r b0 35 v) (h : DataW.Trod enc Try.prog w base (fun _ => true) held 35 v d p) :
    ∃ x : DS_Cut, v = x.val ∧ x.good w := by
  obtain ⟨a0, len0, cap0, rfl⟩ := okWide_slice Try.underlying35 hv
  obtain ⟨fuel, hf⟩ := h
  rcases open_slice_fields Try.underlying35 Try.underlying65 (by kernel_rfl) (by kernel_rfl) hf with ⟨hcs, _⟩ | ⟨x, l, c, m, D, Pl, hcs, _, hl, hm, hmm, hx, hi⟩
  · simp [Value.cells] at hcs
    obtain ⟨rfl, rfl, rfl⟩ := hcs
    exact ⟨⟨none, 0, 0, []⟩, rfl, rfl, by simp, Nat.zero_le _, fun h => absurd h (Nat.lt_irrefl 0)⟩
  · simp [Value.cells] at hcs
    obtain ⟨rfl, rfl, rfl⟩ := hcs
    obtain ⟨b, off, sp⟩ := x
    have hP : ∀ i, ∃ q : DCut, i < len0 → (w.cell? ((⟨b, off, sp⟩ : Addr).add (i * 3)) = some (.int .i64 q.k) ∧ w.cell? ((⟨b, off, sp⟩ : Addr).add (i * 3 + 1)) = some (.int .i64 q.g) ∧ w.cell? ((⟨b, off, sp⟩ : Addr).add (i * 3 + 2)) = some (.int .i64 q.s)) ∧ q.good w := by
      intro i
      by_cases hlt : i < len0
      · obtain ⟨ys, n, _, _, _, hfs⟩ := hi i (by rw [hmm]; simp; omega)
        obtain ⟨v0, y0, c0, _, t0⟩ := hfs 0 _ rfl
        obtain ⟨v1, y1, c1, _, t1⟩ := hfs 1 _ rfl
        obtain ⟨v2, y2, c2, _, t2⟩ := hfs 2 _ rfl
        obtain ⟨k0, rfl, w0⟩ := trod_int' Try.underlying3 t0
        obtain ⟨k1, rfl, w1⟩ := trod_int' Try.underlying3 t1
        obtain ⟨k2, rfl, w2⟩ := trod_int' Try.underlying3 t2
        exact ⟨⟨k0, k1, k2⟩, fun _ => ⟨⟨c0, c1, c2⟩, w0, w1, w2⟩⟩
      · exact ⟨default, fun h => absurd h hlt⟩
    obtain ⟨q, hq⟩ := Classical.axiomOfChoice hP
    have hsp : 0 < len0 → sp = none := by
      intro h0
      have := (hq 0 h0).1.1
      by_cases hs : sp.isSome
      · exfalso
        simp only [World.cell?, Addr.add] at this
        split at this
        · simp [hs] at this
        · simp at this
      · simpa using hs
    refine ⟨⟨some ⟨b, off, sp⟩, len0, cap0, (List.range len0).map q⟩, rfl, by simp, ?_, Nat.le_trans hl hm, fun h0 => ?_⟩
    · intro p hp
      simp at hp
      obtain ⟨i, hlt, rfl⟩ := hp
      exact (hq i hlt).2
    · obtain rfl := hsp h0
      refine ⟨b, off, rfl, fun i hi => ?_⟩
      have hlt : i < len0 := by simpa using hi
      have := (hq i hlt).1
      simp only [add_at] at this
      simpa [hlt, Nat.add_assoc] using this
end

/-- The cells of cuts, as a function of their number. -/
def cc (ps : List DCut) (j : Nat) : Value := if j % 3 = 0 then .int .i64 (ps.getD (j / 3) default).k else if j % 3 = 1 then .int .i64 (ps.getD (j / 3) default).g else .int .i64 (ps.getD (j / 3) default).s
theorem cc0 (ps : List DCut) (k : Nat) : cc ps (k * 3) = .int .i64 (ps.getD k default).k := by
  unfold cc; rw [if_pos (by omega), show k * 3 / 3 = k by omega]
theorem cc1 (ps : List DCut) (k : Nat) : cc ps (k * 3 + 1) = .int .i64 (ps.getD k default).g := by
  unfold cc; rw [if_neg (by omega), if_pos (by omega), show (k * 3 + 1) / 3 = k by omega]
theorem cc2 (ps : List DCut) (k : Nat) : cc ps (k * 3 + 2) = .int .i64 (ps.getD k default).s := by
  unfold cc; rw [if_neg (by omega), if_neg (by omega), show (k * 3 + 2) / 3 = k by omega]
theorem cc_set {w : World} {g N k : Nat} {z : Value} {ps : List DCut} {x y v : Value} (h : Row w g N (fun j => if j < k * 3 then cc ps j else z))
    (hx : x = cc ps (k * 3)) (hy : y = cc ps (k * 3 + 1)) (hv : v = cc ps (k * 3 + 2)) :
    Row (((w.setCell ⟨g, k * 3, none⟩ x).setCell ⟨g, k * 3 + 1, none⟩ y).setCell ⟨g, k * 3 + 2, none⟩ v) g N (fun j => if j < (k + 1) * 3 then cc ps j else z) := by
  refine (((h.set _ _).set _ _).set _ _).congr fun j _ => ?_
  subst hx hy hv
  by_cases h2 : j = k * 3 + 2
  · subst h2; rw [if_pos rfl, if_pos (by omega)]
  · rw [if_neg h2]
    by_cases h1 : j = k * 3 + 1
    · subst h1; rw [if_pos rfl, if_pos (by omega)]
    · rw [if_neg h1]
      by_cases h0 : j = k * 3
      · subst h0; rw [if_pos rfl, if_pos (by omega)]
      · rw [if_neg h0]
        by_cases hk : j < k * 3
        · rw [if_pos hk, if_pos (by omega)]
        · rw [if_neg hk, if_neg (by omega)]
theorem infoCut : (Try.prog.info? 51).map (fun i => (i.zero, i.size, i.bytes)) = some (some (.agg #[.int .i64 0, .int .i64 0, .int .i64 0]), 3, 24) := by kernel_rfl

theorem toCutS_any (a : Option Addr) (len cap : Nat) (ps : List DCut) (w : World) (hl : ps.length = len) (hm : len ≤ 1048576)
    (h : 0 < len → ∃ b off, a = some ⟨b, off, none⟩ ∧ CCells w b off ps) :
    Calls Try.prog 20 #[.slice a len cap] w fun e w' => ∃ g, e = .returned (.slice (some ⟨g, 0, none⟩) len len) ∧ w.heap.size ≤ g ∧ Row w' g (len * 3) (cc ps) ∧ Below w.heap.size w w' := by
  obtain ⟨i0, hi0, hz0, hz1, hz2⟩ := info_parts infoCut
  go_enter Try.func20, Try.ntmps20
  go_wp2_with (at_make; refine wpList_make_full _ rfl _ _ 26 rfl w.heap.size 51 i0 _ 3 Try.underlying26 hi0 hz0 hz1 .i64 .i64 len len len rfl rfl rfl rfl (by rw [hz2]; omega) (by unfold maxLen; omega) (Nat.le_refl _) ?_; intro w1 own1 gr1)
  have R0 : Row w1 w.heap.size (len * 3) (fun j => if j < 0 * 3 then cc ps j else .int .i64 0) := (Row.of_owns own1).congr fun j hj => by
    rw [made_at _ _ _ hj, if_neg (by omega)]
    have : j % 3 = 0 ∨ j % 3 = 1 ∨ j % 3 = 2 := by omega
    rcases this with h | h | h <;> simp [Value.cells, h]
  have B0 : Below w.heap.size w w1 := (Below.refl _ _).grown gr1 (Nat.le_refl _) (by simp)
  clear own1 gr1
  go_loopw [4] (fun i wr => ∃ k : Nat, k ≤ len ∧ i = .int .i64 k ∧ Row wr w.heap.size (len * 3) (fun j => if j < k * 3 then cc ps j else .int .i64 0) ∧ Below w.heap.size w wr) (fun i _ => len - (intOf i).toNat)
  case atStart => exact ⟨0, Nat.zero_le _, rfl, R0, B0⟩
  case round =>
    obtain ⟨k, hk, rfl, hR, hB⟩ := hrel
    by_cases hlt : k < len
    · obtain ⟨b, off, rfl, hP⟩ := h (by omega)
      obtain ⟨c0, c1, c2⟩ := hP k (by omega)
      have hb : b < w.heap.size := World.block_lt_of_cell? _ _ c0
      replace c0 := (hB.cell (p := ⟨b, off + k * 3, none⟩) hb).trans c0
      replace c1 := (hB.cell (p := ⟨b, off + k * 3 + 1, none⟩) hb).trans c1
      replace c2 := (hB.cell (p := ⟨b, off + k * 3 + 2, none⟩) hb).trans c2
      have q0 := cc0 ps k
      have q1 := cc1 ps k
      have q2 := cc2 ps k
      generalize ps.getD k default = q at *
      obtain ⟨qk, qg, qs⟩ := q
      have Q0 := Lib.hid q0
      have Q1 := Lib.hid q1
      have Q2 := Lib.hid q2
      have HR := Lib.hid hR
      have HB := Lib.hid hB
      clear q0 q1 q2 hR hB hP
      simp only at c0 c1 c2
      have m0 : k * 3 < len * 3 := by omega
      have m1 : k * 3 + 1 < len * 3 := by omega
      have m2 : k * 3 + 2 < len * 3 := by omega
      have z0 : (if k * 3 < k * 3 then cc ps (k * 3) else .int .i64 0) = Value.int .i64 0 := if_neg (by omega)
      have z1 : (if k * 3 + 1 < k * 3 then cc ps (k * 3 + 1) else .int .i64 0) = Value.int .i64 0 := if_neg (by omega)
      have z2 : (if k * 3 + 2 < k * 3 then cc ps (k * 3 + 2) else .int .i64 0) = Value.int .i64 0 := if_neg (by omega)
      have Z0 := Lib.hid z0
      have Z1 := Lib.hid z1
      have Z2 := Lib.hid z2
      clear z0 z1 z2
      go_wp2_with (go_at_call 47; refine (toCut_any _ _ _ _).mono ?_; rintro e w2 ⟨rfl, hb2⟩; have hr2 := HR.out.below hb2 HR.out.lt; have f0 := hr2.frozen (k * 3); have f1 := hr2.frozen (k * 3 + 1); have f2 := hr2.frozen (k * 3 + 2); have d0 := (hr2.cell m0).trans (congrArg some Z0.out); have d1 := (hr2.cell m1).trans (congrArg some Z1.out); have d2 := (hr2.cell m2).trans (congrArg some Z2.out))
      go_roundw
      case rel => exact ⟨k + 1, by omega, by go_num, cc_set hr2 Q0.out.symm Q1.out.symm Q2.out.symm, (((HB.out.trans (hb2.mono HB.out.size)).setCell (Nat.le_refl _) _).setCell (Nat.le_refl _) _).setCell (Nat.le_refl _) _⟩
      case measure => simp [intOf]; omega
    · have hk' : k = len := by omega
      subst hk'
      have HR := Lib.hid (hR.congr (d := cc ps) (fun j hj => if_pos hj))
      have HB := Lib.hid hB
      clear hR hB h
      go_wp2
      go_ret
      exact ⟨_, rfl, Nat.le_refl _, HR.out, HB.out⟩
/-- The cuts of a slice that came in are still there where nothing below has turned. -/
theorem CArg_below {w w' : World} {a : Option Addr} {n : Nat} {ps : List DCut} (hl : ps.length = n) (h : 0 < n → ∃ b off, a = some ⟨b, off, none⟩ ∧ CCells w b off ps) (hb : Below w.heap.size w w') :
    0 < n → ∃ b off, a = some ⟨b, off, none⟩ ∧ CCells w' b off ps := by
  intro h0
  obtain ⟨b, off, ha, hP⟩ := h h0
  have hlt : b < w.heap.size := World.block_lt_of_cell? _ _ (hP 0 (by omega)).1
  exact ⟨b, off, ha, fun i hi => ⟨(hb.cell (p := ⟨b, off + i * 3, none⟩) hlt).trans (hP i hi).1, (hb.cell (p := ⟨b, off + i * 3 + 1, none⟩) hlt).trans (hP i hi).2.1, (hb.cell (p := ⟨b, off + i * 3 + 2, none⟩) hlt).trans (hP i hi).2.2⟩⟩
end Go.Proofs.Ytlplfpoggifadaa
