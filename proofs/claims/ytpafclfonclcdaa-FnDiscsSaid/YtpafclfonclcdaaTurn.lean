/-
  Contracts of slices.Clone at integers, of l18Copy and of TurnDisc in the program and in the reference.
  By an AI agent.
-/
import Derived.Test.YtpafclfonclcdaaDisc
import Derived.Test.YtpafclfonclcdaaOwn
import Derived.Deep.RegionHeld3
import Derived.Deep.DeepCutAuto
import Derived.Deep.RegionLaw
import Derived.WalkSmall
import Derived.RegionTactic
import Derived.WalkSpells
namespace Go.Proofs.Ytpafclfonclcdaa
open Go.ChangeShapes Go.WideShapes Go.ChangeAt Go.RowKit Go.Joins Go.Deep
set_option maxRecDepth 100000
set_option linter.unusedVariables false

/-- What an append of a row to an empty slice of the call's own leaves (elements of one cell). -/
theorem app_facts1 {W w0 w1 : World} {n N b : Nat} {e : TypeId} {v1 : Value} {d : Nat → Value} (own1 : w1.ownsRow b e 1 v1 (0 + n) ([] ++ rowL d (n * 1)))
    (gr1 : W.grownBy w1 (Value.slice (some ⟨b, 0, none⟩) 0 0).ownBlock) (nn1 : v1 = .slice none 0 0 ↔ Value.slice (some ⟨b, 0, none⟩) 0 0 = .slice none 0 0 ∧ N = 0) (hb : Below w0.heap.size w0 W) (hs : w0.heap.size ≤ b) :
    ∃ g' c', v1 = .slice (some ⟨g', 0, none⟩) n c' ∧ b ≤ g' ∧ Hid (Row w1 g' n d) ∧ Hid (Below w0.heap.size w0 w1) := by
  have hv : v1 ≠ .slice none 0 0 := fun h => by have := nn1.1 h; simp at this
  rw [Nat.zero_add, List.nil_append] at own1
  obtain ⟨g', c', rfl, hbb, _, R1⟩ := owns_row own1 hv
  have R2 := Lib.hid ((R1.mono (M := n) (by omega)).congr (d := d) fun i hi => rowL_getD _ _ _ (by omega))
  have B2 : Hid (Below w0.heap.size w0 w1) := Lib.hid (hb.grown gr1 hb.size (by intro k hk; simp [Value.ownBlock] at hk; omega))
  exact ⟨g', c', rfl, hbb, R2, B2⟩
theorem sl_news {w : World} {g N : Nat} {c : Nat → Value} (h : SlR w (some ⟨g, 0, none⟩) N c) : ∀ j u, (rowL c (N * 1))[j]? = some u → w.cell? ((⟨g, 0, none⟩ : Addr).add j) = some u := by
  rw [Nat.mul_one]
  rcases h with h0 | ⟨g', hg, hr⟩
  · subst h0; intro j u hj; simp [rowL] at hj
  · simp only [Option.some.injEq, Addr.mk.injEq, and_true] at hg
    obtain rfl := hg
    exact rowL_news hr
theorem SlR.allocd {w : World} {a : Option Addr} {N : Nat} {c : Nat → Value} (h : SlR w a N c) (o : Obj) : SlR (w.alloc o) a N c := h.below (Below.box w o)
theorem iClone_any (g n c : Nat) (zs : List Int) (w : World) (hm : n ≤ 1048576) (hR : SlR w (some ⟨g, 0, none⟩) n (ic zs)) :
    Calls Try.prog 24 #[.slice (some ⟨g, 0, none⟩) n c] w fun e w' => ∃ g' c', e = .returned (.slice (some ⟨g', 0, none⟩) n c') ∧ w.heap.size ≤ g' ∧ Row w' g' n (ic zs) ∧ Below w.heap.size w w' := by
  have hnn := Lib.run_eql_slice_nil (P := Try.prog) w 24 3 (some ⟨g, 0, none⟩) n c 0 0 Try.underlying24
  simp at hnn
  go_enter Try.func24, Try.ntmps24
  obtain ⟨i0, hi0, hz0, hz1, hz2⟩ := info_parts infoInt
  have HR := Lib.hid hR
  clear hR
  go_wp2_with (at_builtin; refine wpList_append_own _ rfl _ _ 24 rfl w.heap.size 3 i0 _ 1 8 Try.underlying24 hi0 hz0 hz1 hz2 rfl (by decide) (.slice (some ⟨w.heap.size, 0, none⟩) 0 0) 0 [] rfl (owns_empty w _ 1) ⟨g, 0, none⟩ n c (rowL (ic zs) (n * 1)) rfl (rowL_length _ _) (sl_news (HR.out.allocd _)) (rowL_one fun i _ => ic_one zs i) (by unfold maxLen; omega) (by omega) (by simp) ?_; intro v1 w1 own1 gr1 nn1; obtain ⟨g', c', rfl, hb, R2, B2⟩ := app_facts1 own1 gr1 nn1 (Below.box w _) (Nat.le_refl _); clear own1 gr1 nn1)
  go_ret
  exact ⟨g', c', rfl, hb, R2.out, B2.out⟩

/-- A step law: append to a slice of the call's own, in a region that draws its order. -/
theorem step_append_own' {P : Program} {w : World} {ops : Array Oper} {o : Oper} {a : Act} {K : Act → World → Prop} {Q : Exit → Act → World → Prop} {E : Prop} (hgd : o.guard = none) (s x : Operand) (t : TypeId)
    (ho : o.op = .call { callee := .builtin .append, args := #[s, x], argTypes := #[t, t] })
    (base : Nat) (e : TypeId) (i : TypeInfo) (z : Value) (size bytes : Nat) (ht : P.underlying t = some (.slice e)) (hi : P.info? e = some i) (hz : i.zero = some z)
    (hsize : i.size = size) (hby : i.bytes = bytes) (hzs : z.cells.size = size) (hsz : 0 < size)
    (v : Value) (n : Nat) (xs : List Value) (hs : a.eval s = v) (hown : w.ownsRow base e size v n xs)
    (ad : Addr) (m c : Nat) (news : List Value) (hx : a.eval x = .slice (some ad) m c) (hl : news.length = m * size) (hnews : ∀ j u, news[j]? = some u → w.cell? (ad.add j) = some u) (h1 : ∀ u ∈ news, u.oneCell' = true)
    (h63 : n + m ≤ maxLen) (hbytes : (n + m) * bytes ≤ 140737488355328) (hbase : base ≤ w.heap.size)
    (h : ∀ v' w', w'.ownsRow base e size v' (n + m) (xs ++ news) → w.grownBy w' v.ownBlock → (v' = .slice none 0 0 ↔ v = .slice none 0 0 ∧ m = 0) → K (a.put o.dst v') w') :
    if Region.wanted o (yielded ops a.tmps) = true then Oper.wp P o a w K Q else E := by
  have hw : Region.wanted o (yielded ops a.tmps) = true := by simp [Region.wanted, hgd]
  rw [if_pos hw]
  exact wp_append_own w s x t ho base e i z size bytes ht hi hz hsize hby hzs hsz v n xs hs hown ad m c news hx hl hnews h1 h63 hbytes hbase h

theorem res3 {w w1 : World} {p q r x y z : Value} {e e' : TypeId} (hb : Below ((w.alloc (.cells #[p, q, r] e' (0, 0))).alloc (.cells #[x, y, z] e (0, 0))).heap.size ((w.alloc (.cells #[p, q, r] e' (0, 0))).alloc (.cells #[x, y, z] e (0, 0))) w1) :
    (w1.cell? ⟨w.heap.size, 0, none⟩ = some p ∧ w1.cell? ⟨w.heap.size, 1, none⟩ = some q ∧ w1.cell? ⟨w.heap.size, 2, none⟩ = some r) ∧
    (w1.cell? ⟨w.heap.size + 1, 0, none⟩ = some x ∧ w1.cell? ⟨w.heap.size + 1, 1, none⟩ = some y ∧ w1.cell? ⟨w.heap.size + 1, 2, none⟩ = some z) ∧
    w1.frozen? ⟨w.heap.size + 1, 0, none⟩ = false ∧ w1.frozen? ⟨w.heap.size + 1, 1, none⟩ = false ∧ w1.frozen? ⟨w.heap.size + 1, 2, none⟩ = false := by
  have e1 : (w.alloc (.cells #[p, q, r] e' (0, 0))).heap.size = w.heap.size + 1 := by simp
  have rr := (Row.of_new (w.alloc (.cells #[p, q, r] e' (0, 0))) #[x, y, z] e).below hb (by simp)
  rw [e1] at rr
  have s := (((Row.of_new w #[p, q, r] e').alloc (.cells #[x, y, z] e (0, 0)))).below hb (by simp; omega)
  exact ⟨⟨s.cell (i := 0) (by simp), s.cell (i := 1) (by simp), s.cell (i := 2) (by simp)⟩, ⟨rr.cell (i := 0) (by simp), rr.cell (i := 1) (by simp), rr.cell (i := 2) (by simp)⟩, rr.frozen 0, rr.frozen 1, rr.frozen 2⟩
set_option maxHeartbeats 1000000 in
theorem l18Copy_any (d f : Int) (g n c : Nat) (zs : List Int) (w : World) (hm : n ≤ 1048576) (hR : SlR w (some ⟨g, 0, none⟩) n (ic zs)) :
    Calls Try.prog 33 #[.agg #[.int .i64 d, .int .i64 f, .slice (some ⟨g, 0, none⟩) n c]] w fun e w' => ∃ g' c', e = .returned (.agg #[.int .i64 d, .int .i64 f, .slice (some ⟨g', 0, none⟩) n c']) ∧ w.heap.size ≤ g' ∧ Row w' g' n (ic zs) ∧ Below w.heap.size w w' := by
  obtain ⟨i0, hi0, hz0, hz1, hz2⟩ := info_parts infoInt
  have HR := Lib.hid hR
  clear hR
  go_enter Try.func33, Try.ntmps33
  have e2 : ((w.alloc (.cells #[.int .i64 d, .int .i64 f, .slice (some ⟨g, 0, none⟩) n c] 26)).alloc (.cells #[.int .i64 0, .int .i64 0, .slice none 0 0] 26)).heap.size = w.heap.size + 2 := by simp
  have OE := owns_empty ((w.alloc (.cells #[.int .i64 d, .int .i64 f, .slice (some ⟨g, 0, none⟩) n c] 26)).alloc (.cells #[.int .i64 0, .int .i64 0, .slice none 0 0] 26)) 3 1
  rw [e2] at OE
  clear e2
  have OE := Lib.hid OE
  have NE := Lib.hid (sl_news (((HR.out.allocd (.cells #[.int .i64 d, .int .i64 f, .slice (some ⟨g, 0, none⟩) n c] 26)).allocd (.cells #[.int .i64 0, .int .i64 0, .slice none 0 0] 26)).allocd (.cells #[] 3)))
  go_wp2
  go_region_law (refine step_append_own' rfl (.tmp 7) (.tmp 9) 24 rfl (w.heap.size + 2) 3 i0 _ 1 8 Try.underlying24 hi0 hz0 hz1 hz2 rfl (by decide) (.slice (some ⟨w.heap.size + 2, 0, none⟩) 0 0) 0 [] (by simp [Act.eval, Act.put]) OE.out.drew ⟨g, 0, none⟩ n c (rowL (ic zs) (n * 1)) (by simp [Act.eval, Act.put]) (rowL_length _ _) NE.out (rowL_one fun i _ => ic_one zs i) (by unfold maxLen; omega) (by omega) (by simp) ?_; intro v1 w1 own1 gr1 nn1; obtain ⟨g', c', rfl, hb, R2, B2⟩ := app_facts1 (w0 := (w.alloc (.cells #[.int .i64 d, .int .i64 f, .slice (some ⟨g, 0, none⟩) n c] 26)).alloc (.cells #[.int .i64 0, .int .i64 0, .slice none 0 0] 26)) own1 gr1 nn1 (by (repeat' (first | exact Below.refl _ _ | refine Below.drew ?_ | refine Below.setCell ?_ ?_ _ | refine Below.alloc ?_ ?_ _)) <;> (first | (simp; done) | (simp; omega))) (by simp); obtain ⟨⟨j0, j1, j2⟩, ⟨k0, k1, k2⟩, f0, f1, f2⟩ := res3 B2.out; clear own1 gr1 nn1)
  all_goals
    go_wp2
    refine bodyPost_ret (v := .agg #[.int .i64 d, .int .i64 f, .slice (some ⟨g', 0, none⟩) n c']) (by simp [results, Try.results33, go_sem, k0, k1, k2]) rfl ⟨g', c', rfl, by omega, ?_, ?_⟩
    · have n1 : g' ≠ w.heap.size + 1 := by omega
      exact ((R2.out.set_other n1 _).set_other n1 _).set_other n1 _
    · have B1 : Below w.heap.size w w1 := ((by (repeat' (first | exact Below.refl _ _ | refine Below.drew ?_ | refine Below.setCell ?_ ?_ _ | refine Below.alloc ?_ ?_ _)) <;> (first | (simp; done) | (simp; omega))) : Below w.heap.size w ((w.alloc (.cells #[.int .i64 d, .int .i64 f, .slice (some ⟨g, 0, none⟩) n c] 26)).alloc (.cells #[.int .i64 0, .int .i64 0, .slice none 0 0] 26))).trans (B2.out.mono (by simp; omega))
      exact ((B1.setCell (by simp) _).setCell (by simp) _).setCell (by simp) _
end Go.Proofs.Ytpafclfonclcdaa
