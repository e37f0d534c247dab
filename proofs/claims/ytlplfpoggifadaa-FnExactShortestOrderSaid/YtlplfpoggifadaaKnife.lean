/-
  The way of a knife in the program: contracts of away and cut, for cuts that are valid.
  By an AI agent.
-/
import Derived.Test.YtlplfpoggifadaaWay
import Derived.Deep.RegionHeld3
namespace Go.Proofs.Ytlplfpoggifadaa
open Go.ChangeShapes Go.WideShapes Go.ChangeAt Go.RowKit Go.Joins Go.Deep
set_option maxRecDepth 100000
set_option linter.unusedVariables false

set_option maxHeartbeats 1000000 in
theorem away_any (r p n : Int) (x : DCut) (w : World) (h : At r p) (hx : cOk x = true) :
    Calls Try.prog 55 #[.agg #[.int .i64 r, .int .i64 p, .int .i64 n], .agg #[.int .i64 x.k, .int .i64 x.g, .int .i64 x.s]] w fun e w' => e = .returned (.tuple #[.int .i64 (goA r p x), .int .i64 (goB r p x)]) ∧ Below w.heap.size w w' := by
  obtain ⟨k, g, s⟩ := x
  obtain ⟨a, b, c, d⟩ := h
  obtain ⟨e, f, i, j, l⟩ := cOk_iff.1 hx
  simp only at e f i j l ⊢
  clear hx
  unfold goA goB
  simp only
  have m1 := ab_bd a b e f
  have m2 := ab_bd c d i (by omega : g ≤ 100)
  have m3 := ab_bd c d (by omega : 0 ≤ s) l
  have W1 : IntKind.i64.wrap (ab r k + ab p g) = ab r k + ab p g := IntWalk.i64_in _ (by omega)
  have W2 : IntKind.i64.wrap (ab r k + ab p s) = ab r k + ab p s := IntWalk.i64_in _ (by omega)
  go_enter Try.func55, Try.ntmps55
  go_wp2_with (go_at_call 73; refine (distance_any _ _ _ a b e f).mono ?_; rintro e w' ⟨rfl, rfl⟩)
  go_quiet ((go_at_call 73; exact quiet_eq (distance_any _ _ _ (by omega) (by omega) (by omega) (by omega))))
  go_wp2
  go_ret2
  exact ⟨rfl, below_drewN (by (repeat' (first | exact Below.refl _ _ | refine Below.drew ?_ | refine Below.setCell ?_ ?_ _ | refine Below.alloc ?_ ?_ _)) <;> (first | (simp; done) | (simp; omega))) _⟩
theorem Row.tri3 {w : World} {b : Nat} {x y z : Value} (h : Row w b 3 (tri x y z)) :
    (w.cell? ⟨b, 0, none⟩ = some x ∧ w.cell? ⟨b, 1, none⟩ = some y ∧ w.cell? ⟨b, 2, none⟩ = some z) ∧ w.frozen? ⟨b, 0, none⟩ = false ∧ w.frozen? ⟨b, 1, none⟩ = false ∧ w.frozen? ⟨b, 2, none⟩ = false :=
  ⟨⟨h.cell (i := 0) (by omega), h.cell (i := 1) (by omega), h.cell (i := 2) (by omega)⟩, h.frozen 0, h.frozen 1, h.frozen 2⟩
theorem Row.new3 (w : World) (x y z : Value) (e : TypeId) : Row (w.alloc (.cells #[x, y, z] e (0, 0))) w.heap.size 3 (tri x y z) :=
  (Row.of_new w #[x, y, z] e).congr fun i hi => by
    have : i = 0 ∨ i = 1 ∨ i = 2 := by simp at hi; omega
    rcases this with rfl | rfl | rfl <;> rfl
theorem rows3 (w : World) (a b c p q r x y z : Value) (e e' e2 : TypeId) :
    Row (((w.alloc (.cells #[a, b, c] e (0, 0))).alloc (.cells #[p, q, r] e' (0, 0))).alloc (.cells #[x, y, z] e2 (0, 0))) w.heap.size 3 (tri a b c) ∧
    Row (((w.alloc (.cells #[a, b, c] e (0, 0))).alloc (.cells #[p, q, r] e' (0, 0))).alloc (.cells #[x, y, z] e2 (0, 0))) (w.heap.size + 1) 3 (tri p q r) ∧
    Row (((w.alloc (.cells #[a, b, c] e (0, 0))).alloc (.cells #[p, q, r] e' (0, 0))).alloc (.cells #[x, y, z] e2 (0, 0))) (w.heap.size + 1 + 1) 3 (tri x y z) := by
  have e1 : (w.alloc (.cells #[a, b, c] e (0, 0))).heap.size = w.heap.size + 1 := by simp
  have e3 : ((w.alloc (.cells #[a, b, c] e (0, 0))).alloc (.cells #[p, q, r] e' (0, 0))).heap.size = w.heap.size + 1 + 1 := by simp
  refine ⟨((Row.new3 w a b c e).alloc _).alloc _, ?_, ?_⟩
  · have := Row.new3 (w.alloc (.cells #[a, b, c] e (0, 0))) p q r e'
    rw [e1] at this
    exact this.alloc _
  · have := Row.new3 ((w.alloc (.cells #[a, b, c] e (0, 0))).alloc (.cells #[p, q, r] e' (0, 0))) x y z e2
    rw [e3] at this
    exact this
set_option maxHeartbeats 1000000 in
theorem cut_any (r p n : Int) (x : DCut) (w : World) (h : At r p) (hx : cOk x = true) (h0 : 0 ≤ n) (h1 : n ≤ 1000000) :
    Calls Try.prog 57 #[.agg #[.int .i64 r, .int .i64 p, .int .i64 n], .agg #[.int .i64 x.k, .int .i64 x.g, .int .i64 x.s]] w fun e w' => e = .returned (.agg #[.int .i64 x.k, .int .i64 (goP r p x), .int .i64 (n + goW r p x)]) ∧ Below w.heap.size w w' := by
  have hb := goM_bd h hx
  have HX := Lib.hid hx
  have HA := Lib.hid h
  obtain ⟨e, f, i, j, l⟩ := cOk_iff.1 hx
  obtain ⟨b1, b2, b3, b4, b5, b6⟩ := hb
  have hW : goW r p x = goM r p x + x.s - x.g := rfl
  have hP : goP r p x = if goB r p x < goA r p x then x.g else x.s := rfl
  have hM : goM r p x = if goB r p x < goA r p x then goB r p x else goA r p x := rfl
  have B0 : Hid (Below w.heap.size w (((w.alloc (.cells #[.int .i64 r, .int .i64 p, .int .i64 n] 74)).alloc (.cells #[.int .i64 x.k, .int .i64 x.g, .int .i64 x.s] 51)).alloc (.cells #[.int .i64 0, .int .i64 0, .int .i64 0] 74))) := Lib.hid (by (repeat' (first | exact Below.refl _ _ | refine Below.drew ?_ | refine Below.setCell ?_ ?_ _ | refine Below.alloc ?_ ?_ _)) <;> (first | (simp; done) | (simp; omega)))
  clear hx h
  obtain ⟨P0, Q0, R0⟩ := rows3 w (.int .i64 r) (.int .i64 p) (.int .i64 n) (.int .i64 x.k) (.int .i64 x.g) (.int .i64 x.s) (.int .i64 0) (.int .i64 0) (.int .i64 0) 74 51 74
  have P0 := Lib.hid P0
  have Q0 := Lib.hid Q0
  have R0 := Lib.hid R0
  by_cases hlt : goB r p x < goA r p x
  · have V1 : Hid (n + goW r p x = n + goB r p x + x.s - x.g) := Lib.hid (by rw [hW, hM, if_pos hlt]; omega)
    have V2 : Hid (goP r p x = x.g) := Lib.hid (by rw [hP, if_pos hlt])
    clear hW hP hM
    go_enter Try.func57, Try.ntmps57
    go_wp2_with (go_at_call 55; refine (away_any r p n x _ HA.out HX.out).mono ?_; rintro e w1 ⟨rfl, hb⟩; have z1 := hb.size; simp only [World.size_alloc] at z1; have P1 := Lib.hid (P0.out.below hb P0.out.lt); have Q1 := Lib.hid (Q0.out.below hb Q0.out.lt); have R1 := Lib.hid (R0.out.below hb R0.out.lt); have B1 := Lib.hid (B0.out.trans (hb.mono B0.out.size)); obtain ⟨⟨p0, p1, p2⟩, _⟩ := P1.out.tri3; obtain ⟨⟨q0, q1, q2⟩, _⟩ := Q1.out.tri3; obtain ⟨⟨r0, r1, r2⟩, r3, r4, r5⟩ := R1.out.tri3; clear hb)
    refine bodyPost_ret (v := .agg #[.int .i64 x.k, .int .i64 x.g, .int .i64 (n + goB r p x + x.s - x.g)]) (by simp [results, Try.results57, go_sem, r0, r1, r2]) rfl ⟨by rw [V1.out, V2.out], ?_⟩
    exact ((B1.out.setCell (by simp; omega) _).setCell (by simp; omega) _).setCell (by simp; omega) _
  · have V1 : Hid (n + goW r p x = n + goA r p x + x.s - x.g) := Lib.hid (by rw [hW, hM, if_neg hlt]; omega)
    have V2 : Hid (goP r p x = x.s) := Lib.hid (by rw [hP, if_neg hlt])
    clear hW hP hM
    go_enter Try.func57, Try.ntmps57
    go_wp2_with (go_at_call 55; refine (away_any r p n x _ HA.out HX.out).mono ?_; rintro e w1 ⟨rfl, hb⟩; have z1 := hb.size; simp only [World.size_alloc] at z1; have P1 := Lib.hid (P0.out.below hb P0.out.lt); have Q1 := Lib.hid (Q0.out.below hb Q0.out.lt); have R1 := Lib.hid (R0.out.below hb R0.out.lt); have B1 := Lib.hid (B0.out.trans (hb.mono B0.out.size)); obtain ⟨⟨p0, p1, p2⟩, _⟩ := P1.out.tri3; obtain ⟨⟨q0, q1, q2⟩, _⟩ := Q1.out.tri3; obtain ⟨⟨r0, r1, r2⟩, r3, r4, r5⟩ := R1.out.tri3; clear hb)
    refine bodyPost_ret (v := .agg #[.int .i64 x.k, .int .i64 x.s, .int .i64 (n + goA r p x + x.s - x.g)]) (by simp [results, Try.results57, go_sem, r0, r1, r2]) rfl ⟨by rw [V1.out, V2.out], ?_⟩
    exact ((B1.out.setCell (by simp; omega) _).setCell (by simp; omega) _).setCell (by simp; omega) _
end Go.Proofs.Ytlplfpoggifadaa
