/-
  Copies: a copy that comes in by value, opened; contracts of szCopy, toCopy, eqCopy and CopyOk.
  By an AI agent.
-/
import Derived.Test.YteghmdfiofbmiaaCard
import Derived.Test.YteghmdfiofbmiaaPaper
namespace Go.Proofs.Yteghmdfiofbmiaa
open Go.ChangeShapes Go.WideShapes Go.ChangeAt Go.RowKit Go.Joins Go.Deep
set_option maxRecDepth 100000
set_option linter.unusedVariables false

structure DCopy where
  d : Int
  f : Int
  a : Option Addr
  n : Nat
  c : Nat
  ss : List ByteArray
  k : Int
  g : Int
  s : Int
  o : Int
def DCopy.val (x : DCopy) : Value := .agg #[.int .i64 x.d, .int .i64 x.f, .slice x.a x.n x.c, .int .i64 x.k, .int .i64 x.g, .int .i64 x.s, .int .i64 x.o]
def DCopy.good (x : DCopy) (w : World) : Prop := x.ss.length = x.n ∧ x.n ≤ 9223372036854775807 ∧ (∀ k, k < x.n → (x.ss.getD k ByteArray.empty).size ≤ 9223372036854775807) ∧ SArg w x.a x.n x.ss
theorem array7 {α : Type} {cs : Array α} (h : cs.size = 7) : ∃ a b c d e f g, cs = #[a, b, c, d, e, f, g] := by
  obtain ⟨l⟩ := cs
  match l, h with
  | [a, b, c, d, e, f, g], _ => exact ⟨a, b, c, d, e, f, g, rfl⟩
section
variable {H : Type} {enc : TypeId × Value → H} {w : World} {r : Reach} {b0 base : Nat} {held : Bool}
theorem open_Copy {v : Value} {d : DataW H} {p : List MemPlace}
    (hv : Value.okWide Try.prog w r b0 69 v) (h : DataW.Trod enc Try.prog w base (fun _ => true) held 69 v d p) :
    ∃ x : DCopy, v = x.val ∧ x.good w := by
  obtain ⟨cs, rfl, hsz⟩ := okWide_struct Try.underlying69 hv
  have hC : Try.prog.cellsOf 69 = 7 := by kernel_rfl
  have hC3 : Try.prog.cellsOf 65 = 3 := by kernel_rfl
  have hP3 : Try.prog.cellsOf 67 = 3 := by kernel_rfl
  have hI : Try.prog.cellsOf 3 = 1 := by kernel_rfl
  have hS : Try.prog.cellsOf 55 = 1 := by kernel_rfl
  obtain ⟨c0, c1, c2, c3, c4, c5, c6, rfl⟩ := array7 (hsz.trans hC)
  obtain ⟨fuel, hf⟩ := h
  obtain ⟨y0, y1, y2, n, _, _, t0, t1, t2⟩ := trod_struct3 Try.underlying69 hf
  dsimp only at t0 t1 t2
  have u0 : DataW.trod enc Try.prog w base (fun _ => true) held n 65 [c0, c1, c2] = some y0 := by
    have := t0
    rw [hC3] at this
    exact this
  have u1 : DataW.trod enc Try.prog w base (fun _ => true) held n 67 [c3, c4, c5] = some y1 := by
    have := t1
    rw [hP3] at this
    exact this
  have u2 : DataW.trod enc Try.prog w base (fun _ => true) held n 3 [c6] = some y2 := by
    have := t2
    rw [hI] at this
    exact this
  obtain ⟨z0, z1, z2, n1, _, _, v0, v1, v2⟩ := trod_struct3 Try.underlying65 u0
  obtain ⟨x0, x1, x2, n2, _, _, q0, q1, q2⟩ := trod_struct3 Try.underlying67 u1
  dsimp only at v0 v1 v2 q0 q1 q2
  rw [hI] at v0 v1 q0 q1 q2
  rw [hS] at v2
  have k0 : DataW.trod enc Try.prog w base (fun _ => true) held n1 3 [c0] = some z0 := v0
  have k1 : DataW.trod enc Try.prog w base (fun _ => true) held n1 3 [c1] = some z1 := v1
  have k2 : DataW.trod enc Try.prog w base (fun _ => true) held n1 55 [c2] = some z2 := v2
  have k3 : DataW.trod enc Try.prog w base (fun _ => true) held n2 3 [c3] = some x0 := q0
  have k4 : DataW.trod enc Try.prog w base (fun _ => true) held n2 3 [c4] = some x1 := q1
  have k5 : DataW.trod enc Try.prog w base (fun _ => true) held n2 3 [c5] = some x2 := q2
  obtain ⟨i0, a0, _, _⟩ := DataW.trod_int Try.underlying3 k0
  obtain ⟨i1, a1, _, _⟩ := DataW.trod_int Try.underlying3 k1
  obtain ⟨i3, a3, _, _⟩ := DataW.trod_int Try.underlying3 k3
  obtain ⟨i4, a4, _, _⟩ := DataW.trod_int Try.underlying3 k4
  obtain ⟨i5, a5, _, _⟩ := DataW.trod_int Try.underlying3 k5
  obtain ⟨i6, a6, _, _⟩ := DataW.trod_int Try.underlying3 u2
  simp at a0 a1 a3 a4 a5 a6
  subst a0 a1 a3 a4 a5 a6
  obtain ⟨ad, len, cap, ss, rfl, m1, m2, m3, m4⟩ := open_strs Try.underlying55 k2
  exact ⟨⟨i0, i1, ad, len, cap, ss, i3, i4, i5, i6⟩, rfl, m1, m2, m3, m4⟩
end

theorem box7 {w w1 : World} {x0 x1 x2 x3 x4 x5 x6 : Value} {e : TypeId} (hb : Below (w.alloc (.cells #[x0, x1, x2, x3, x4, x5, x6] e (0, 0))).heap.size (w.alloc (.cells #[x0, x1, x2, x3, x4, x5, x6] e (0, 0))) w1) :
    w1.cell? ⟨w.heap.size, 0, none⟩ = some x0 ∧ w1.cell? ⟨w.heap.size, 1, none⟩ = some x1 ∧ w1.cell? ⟨w.heap.size, 2, none⟩ = some x2 ∧ w1.cell? ⟨w.heap.size, 3, none⟩ = some x3 ∧ w1.cell? ⟨w.heap.size, 4, none⟩ = some x4 ∧ w1.cell? ⟨w.heap.size, 5, none⟩ = some x5 ∧ w1.cell? ⟨w.heap.size, 6, none⟩ = some x6 := by
  have r := (Row.of_new w #[x0, x1, x2, x3, x4, x5, x6] e).below hb (by simp)
  exact ⟨r.cell (i := 0) (by simp), r.cell (i := 1) (by simp), r.cell (i := 2) (by simp), r.cell (i := 3) (by simp), r.cell (i := 4) (by simp), r.cell (i := 5) (by simp), r.cell (i := 6) (by simp)⟩
theorem szCopy_ok (d f : Int) (a : Option Addr) (n c : Nat) (ss : List ByteArray) (k g s o : Int) (w : World) (left : Int) (hl : left ≤ 1048576) (h0 : (n : Int) + tot ss n ≤ left) (h : SArg w a n ss) :
    Calls Try.prog 47 #[.agg #[.int .i64 d, .int .i64 f, .slice a n c, .int .i64 k, .int .i64 g, .int .i64 s, .int .i64 o], .int .i64 left] w fun e w' => e = .returned (.int .i64 (left - n - tot ss n)) ∧ Below w.heap.size w w' := by
  have HB := Lib.hid (Below.box w (.cells #[.int .i64 d, .int .i64 f, .slice a n c, .int .i64 k, .int .i64 g, .int .i64 s, .int .i64 o] 69 (0, 0)))
  have HA := Lib.hid (h.below HB.out)
  clear h
  go_enter Try.func47, Try.ntmps47
  go_wp2_with (go_at_call 85; refine (szCard_ok _ _ _ _ _ _ _ _ hl h0 HA.out).mono ?_; rintro e w' ⟨rfl, hb⟩)
  go_ret
  exact ⟨rfl, HB.out.trans (hb.mono HB.out.size)⟩
theorem szCopy_big (d f : Int) (a : Option Addr) (n c : Nat) (ss : List ByteArray) (k g s o : Int) (w : World) (left : Int) (hl0 : 0 ≤ left) (hl : left ≤ 1048576) (hmx : n ≤ 9223372036854775807) (hsz : ∀ k, k < n → (ss.getD k ByteArray.empty).size ≤ 9223372036854775807) (h0 : left < (n : Int) + tot ss n) (h : SArg w a n ss) :
    Calls Try.prog 47 #[.agg #[.int .i64 d, .int .i64 f, .slice a n c, .int .i64 k, .int .i64 g, .int .i64 s, .int .i64 o], .int .i64 left] w fun e w' => e = .returned (.int .i64 (-1)) ∧ Below w.heap.size w w' := by
  have HB := Lib.hid (Below.box w (.cells #[.int .i64 d, .int .i64 f, .slice a n c, .int .i64 k, .int .i64 g, .int .i64 s, .int .i64 o] 69 (0, 0)))
  have HA := Lib.hid (h.below HB.out)
  have HS := Lib.hid hsz
  clear h hsz
  go_enter Try.func47, Try.ntmps47
  go_wp2_with (go_at_call 85; refine (szCard_big _ _ _ _ _ _ _ _ hl0 hl hmx HS.out h0 HA.out).mono ?_; rintro e w' ⟨rfl, hb⟩)
  go_ret
  exact ⟨rfl, HB.out.trans (hb.mono HB.out.size)⟩
def copyOkB (d f : Int) (ss : List ByteArray) (k g s o : Int) : Bool := cardOkB d f ss && (paperOkB k g s && inB o 0 1000000)
theorem iCopyOk_any (d f : Int) (a : Option Addr) (n c : Nat) (ss : List ByteArray) (k g s o : Int) (w : World) (hl : ss.length = n) (hm : (n : Int) + tot ss n ≤ 1048576) (hR : SlR w a n (sc ss)) :
    Calls Try.prog 91 #[.agg #[.int .i64 d, .int .i64 f, .slice a n c, .int .i64 k, .int .i64 g, .int .i64 s, .int .i64 o]] w fun e w' => e = .returned (.bool (copyOkB d f ss k g s o)) ∧ Below w.heap.size w w' := by
  have HB := Lib.hid (Below.box w (.cells #[.int .i64 d, .int .i64 f, .slice a n c, .int .i64 k, .int .i64 g, .int .i64 s, .int .i64 o] 74 (0, 0)))
  have HR := Lib.hid (hR.below HB.out)
  have HL := Lib.hid hl
  clear hR hl
  unfold copyOkB
  cases ho : cardOkB d f ss
  · have HO := Lib.hid ho
    clear ho
    go_enter Try.func91, Try.ntmps91
    go_wp2_with (go_at_call 80; refine (iCardOk_any _ _ _ _ _ _ _ HL.out hm HR.out).mono ?_; rw [HO.out]; rintro e w' ⟨rfl, hb⟩)
    go_ret
    exact ⟨rfl, HB.out.trans (hb.mono HB.out.size)⟩
  · have HO := Lib.hid ho
    clear ho
    cases hp : paperOkB k g s
    · have HP := Lib.hid hp
      clear hp
      go_enter Try.func91, Try.ntmps91
      go_wp2_with (first | (go_at_call 80; refine (iCardOk_any _ _ _ _ _ _ _ HL.out hm HR.out).mono ?_; rw [HO.out]; rintro e w1 ⟨rfl, hb⟩; obtain ⟨b0, b1, b2, b3, b4, b5, b6⟩ := box7 hb) | (go_at_call 117; refine (iPaperOk_f _ _ _ _ HP.out).mono ?_; rintro e w2 ⟨rfl, hb2⟩))
      go_ret
      exact ⟨rfl, HB.out.trans ((hb.trans (hb2.mono hb.size)).mono HB.out.size)⟩
    · have HP := Lib.hid hp
      clear hp
      go_enter Try.func91, Try.ntmps91
      go_wp2_with (first | (go_at_call 80; refine (iCardOk_any _ _ _ _ _ _ _ HL.out hm HR.out).mono ?_; rw [HO.out]; rintro e w1 ⟨rfl, hb⟩; have HB1 := Lib.hid hb; obtain ⟨b0, b1, b2, b3, b4, b5, b6⟩ := box7 hb; clear hb) | (go_at_call 117; refine (iPaperOk_t _ _ _ _ HP.out).mono ?_; rintro e w2 ⟨rfl, hb2⟩; have HB2 := Lib.hid (HB1.out.trans (hb2.mono HB1.out.size)); clear b0 b1 b2 b3 b4 b5 b6 hb2; obtain ⟨b0, b1, b2, b3, b4, b5, b6⟩ := box7 HB2.out) | (go_at_call 62; refine (within_any _ _ _ _).mono ?_; rintro e w' ⟨rfl, rfl⟩) | (go_at_call 67; refine (l01In_any _ _ _ _).mono ?_; rintro e w' ⟨rfl, rfl⟩))
      go_ret
      exact ⟨rfl, HB.out.trans (HB2.out.mono HB.out.size)⟩
theorem sCopyOk_any (d f : Int) (a : Option Addr) (n c : Nat) (ss : List ByteArray) (k g s o : Int) (w : World) (hl : ss.length = n) (hm : (n : Int) + tot ss n ≤ 1048576) (hR : SlR w a n (sc ss)) :
    Calls Try.prog 112 #[.agg #[.int .i64 d, .int .i64 f, .slice a n c, .int .i64 k, .int .i64 g, .int .i64 s, .int .i64 o]] w fun e w' => e = .returned (.bool (copyOkB d f ss k g s o)) ∧ Below w.heap.size w w' := by
  have HB := Lib.hid (Below.box w (.cells #[.int .i64 d, .int .i64 f, .slice a n c, .int .i64 k, .int .i64 g, .int .i64 s, .int .i64 o] 74 (0, 0)))
  have HR := Lib.hid (hR.below HB.out)
  have HL := Lib.hid hl
  clear hR hl
  unfold copyOkB
  cases ho : cardOkB d f ss
  · have HO := Lib.hid ho
    clear ho
    go_enter Try.func112, Try.ntmps112
    go_wp2_with (go_at_call 83; refine (sCardOk_any _ _ _ _ _ _ _ HL.out hm HR.out).mono ?_; rw [HO.out]; rintro e w' ⟨rfl, hb⟩)
    go_ret
    exact ⟨rfl, HB.out.trans (hb.mono HB.out.size)⟩
  · have HO := Lib.hid ho
    clear ho
    cases hp : paperOkB k g s
    · have HP := Lib.hid hp
      clear hp
      go_enter Try.func112, Try.ntmps112
      go_wp2_with (first | (go_at_call 83; refine (sCardOk_any _ _ _ _ _ _ _ HL.out hm HR.out).mono ?_; rw [HO.out]; rintro e w1 ⟨rfl, hb⟩; obtain ⟨b0, b1, b2, b3, b4, b5, b6⟩ := box7 hb) | (go_at_call 113; refine (sPaperOk_f _ _ _ _ HP.out).mono ?_; rintro e w2 ⟨rfl, hb2⟩))
      go_ret
      exact ⟨rfl, HB.out.trans ((hb.trans (hb2.mono hb.size)).mono HB.out.size)⟩
    · have HP := Lib.hid hp
      clear hp
      go_enter Try.func112, Try.ntmps112
      go_wp2_with (first | (go_at_call 83; refine (sCardOk_any _ _ _ _ _ _ _ HL.out hm HR.out).mono ?_; rw [HO.out]; rintro e w1 ⟨rfl, hb⟩; have HB1 := Lib.hid hb; obtain ⟨b0, b1, b2, b3, b4, b5, b6⟩ := box7 hb; clear hb) | (go_at_call 113; refine (sPaperOk_t _ _ _ _ HP.out).mono ?_; rintro e w2 ⟨rfl, hb2⟩; have HB2 := Lib.hid (HB1.out.trans (hb2.mono HB1.out.size)); clear b0 b1 b2 b3 b4 b5 b6 hb2; obtain ⟨b0, b1, b2, b3, b4, b5, b6⟩ := box7 HB2.out) | (go_at_call 62; refine (within_any _ _ _ _).mono ?_; rintro e w' ⟨rfl, rfl⟩) | (go_at_call 67; refine (l01In_any _ _ _ _).mono ?_; rintro e w' ⟨rfl, rfl⟩))
      go_ret
      exact ⟨rfl, HB.out.trans (HB2.out.mono HB.out.size)⟩
theorem eqPaper_same (k g s : Int) (w : World) :
    Calls Try.prog 95 #[.agg #[.int .i64 k, .int .i64 g, .int .i64 s], .agg #[.int .i64 k, .int .i64 g, .int .i64 s]] w fun e w' => e = .returned (.bool true) ∧ Below w.heap.size w w' := by
  go_enter Try.func95, Try.ntmps95
  go_wp2
  go_ret
  exact ⟨rfl, (by (repeat' (first | exact Below.refl _ _ | refine Below.drew ?_ | refine Below.setCell ?_ ?_ _ | refine Below.alloc ?_ ?_ _)) <;> (first | (simp; done) | (simp; omega)))⟩

set_option maxHeartbeats 1000000 in
theorem eqCopy_same (d f : Int) (a b : Option Addr) (n c cb : Nat) (ss : List ByteArray) (k g s o : Int) (w : World) (hm : n ≤ 1048576) (hA : SlR w a n (sc ss)) (hB : SlR w b n (sc ss)) :
    Calls Try.prog 51 #[.agg #[.int .i64 d, .int .i64 f, .slice a n c, .int .i64 k, .int .i64 g, .int .i64 s, .int .i64 o], .agg #[.int .i64 d, .int .i64 f, .slice b n cb, .int .i64 k, .int .i64 g, .int .i64 s, .int .i64 o]] w fun e w' => e = .returned (.bool true) ∧ Below w.heap.size w w' := by
  have q1 := Below.box w (.cells #[.int .i64 d, .int .i64 f, .slice a n c, .int .i64 k, .int .i64 g, .int .i64 s, .int .i64 o] 74 (0, 0))
  have q2 := Below.box (w.alloc (.cells #[.int .i64 d, .int .i64 f, .slice a n c, .int .i64 k, .int .i64 g, .int .i64 s, .int .i64 o] 74 (0, 0))) (.cells #[.int .i64 d, .int .i64 f, .slice b n cb, .int .i64 k, .int .i64 g, .int .i64 s, .int .i64 o] 74 (0, 0))
  have HB := Lib.hid (q1.trans (q2.mono q1.size))
  have HA := Lib.hid ((hA.below q1).below q2)
  have HBs := Lib.hid ((hB.below q1).below q2)
  clear hA hB q1 q2
  have e1 : (o != o) = false := by simp
  go_enter Try.func51, Try.ntmps51
  go_wp2_with (go_at_call 94; refine (eqCard_same _ _ _ _ _ _ _ _ _ hm HA.out HBs.out).mono ?_; rintro e w1 ⟨rfl, hb⟩; obtain ⟨hc, hf⟩ := bcell hb)
  refine (eqPaper_same _ _ _ _).mono ?_
  rintro e w2 ⟨rfl, hb2⟩
  have HB2 := hb.trans (hb2.mono hb.size)
  clear hc hf
  obtain ⟨hc, hf⟩ := bcell HB2
  go_wp2
  go_ret
  exact ⟨rfl, HB.out.trans (HB2.mono HB.out.size)⟩
theorem toCopy_any (d f : Int) (a : Option Addr) (n c : Nat) (ss : List ByteArray) (k g s o : Int) (w : World) (hm : n ≤ 1048576) (h : SArg w a n ss) :
    Calls Try.prog 49 #[.agg #[.int .i64 d, .int .i64 f, .slice a n c, .int .i64 k, .int .i64 g, .int .i64 s, .int .i64 o]] w fun e w' => ∃ x, e = .returned (.agg #[.int .i64 d, .int .i64 f, .slice (some ⟨x, 0, none⟩) n n, .int .i64 k, .int .i64 g, .int .i64 s, .int .i64 o]) ∧ w.heap.size ≤ x ∧ Row w' x n (sc ss) ∧ Below w.heap.size w w' := by
  have HA := Lib.hid h
  clear h
  go_enter Try.func49, Try.ntmps49
  go_wp2_with (go_at_call 89; refine (toCard_any _ _ _ _ _ _ _ hm (HA.out.below (by (repeat' (first | exact Below.refl _ _ | refine Below.drew ?_ | refine Below.setCell ?_ ?_ _ | refine Below.alloc ?_ ?_ _)) <;> (first | (simp; done) | (simp; omega))))).mono ?_; rintro e w1 ⟨x, rfl, hg, hr, hb⟩; obtain ⟨hc, hf⟩ := bcell hb; have HG := Lib.hid hg; have HR := Lib.hid hr; have HB := Lib.hid hb; clear hg hr hb)
  have g3 := HG.out
  simp at g3
  have z := HB.out.size
  simp at z
  have z0 : w.heap.size < w1.heap.size := by omega
  have z1 : w.heap.size + 1 < w1.heap.size := by omega
  have z2 : w.heap.size + 1 + 1 < w1.heap.size := by omega
  refine (toPaper_any k g s _).mono ?_
  rintro e w2 ⟨rfl, hb2⟩
  obtain ⟨hc2, hf2⟩ := bcell hb2
  have HB2 := Lib.hid hb2
  clear hb2
  go_wp2
  refine bodyPost_ret (v := .agg #[.int .i64 d, .int .i64 f, .slice (some ⟨x, 0, none⟩) n n, .int .i64 k, .int .i64 g, .int .i64 s, .int .i64 o]) (by simp [results, Try.results49, go_sem, hc, hc2, z1]) rfl ⟨x, rfl, by omega, ?_, ?_⟩
  · have n1 : x ≠ w.heap.size + 1 := by omega
    have n2 : x ≠ w.heap.size + 1 + 1 := by omega
    have R3 := (((HR.out.set_other (p := ⟨w.heap.size + 1 + 1, 0, none⟩) n2 (.int .i64 d)).set_other (p := ⟨w.heap.size + 1 + 1, 1, none⟩) n2 (.int .i64 f)).set_other (p := ⟨w.heap.size + 1 + 1, 2, none⟩) n2 (.slice (some ⟨x, 0, none⟩) n n))
    have R4 := R3.below HB2.out R3.lt
    exact ((((((((((R4.set_other n2 _).set_other n2 _).set_other n2 _).set_other n2 _).set_other n1 _).set_other n1 _).set_other n1 _).set_other n1 _).set_other n1 _).set_other n1 _).set_other n1 _
  · have l1 : w.heap.size ≤ w.heap.size + 1 := by omega
    have l2 : w.heap.size ≤ w.heap.size + 1 + 1 := by omega
    have B1 : Below w.heap.size w _ := ((by (repeat' (first | exact Below.refl _ _ | refine Below.drew ?_ | refine Below.setCell ?_ ?_ _ | refine Below.alloc ?_ ?_ _)) <;> (first | (simp; done) | (simp; omega))) : Below w.heap.size w (((w.alloc (.cells #[.int .i64 d, .int .i64 f, .slice a n c, .int .i64 k, .int .i64 g, .int .i64 s, .int .i64 o] 69)).alloc (.cells #[.int .i64 0, .int .i64 0, .slice none 0 0, .int .i64 0, .int .i64 0, .int .i64 0, .int .i64 0] 74)).alloc (.cells #[.int .i64 0, .int .i64 0, .slice none 0 0, .int .i64 0, .int .i64 0, .int .i64 0, .int .i64 0] 74))).trans (HB.out.mono (by simp; omega))
    have B2 := (((B1.setCell (p := ⟨w.heap.size + 1 + 1, 0, none⟩) l2 (.int .i64 d)).setCell (p := ⟨w.heap.size + 1 + 1, 1, none⟩) l2 (.int .i64 f)).setCell (p := ⟨w.heap.size + 1 + 1, 2, none⟩) l2 (.slice (some ⟨x, 0, none⟩) n n))
    have B3 := B2.trans (HB2.out.mono B2.size)
    exact ((((((((((B3.setCell l2 _).setCell l2 _).setCell l2 _).setCell l2 _).setCell l1 _).setCell l1 _).setCell l1 _).setCell l1 _).setCell l1 _).setCell l1 _).setCell l1 _
end Go.Proofs.Yteghmdfiofbmiaa
