/-
  Contracts of TurnDisc in the program and in the reference.
  By an AI agent.
-/
import Derived.Test.YtpafclfonclcdaaTurn
namespace Go.Proofs.Ytpafclfonclcdaa
open Go.ChangeShapes Go.WideShapes Go.ChangeAt Go.RowKit Go.Joins Go.Deep
set_option maxRecDepth 100000
set_option linter.unusedVariables false

theorem Row.tri3 {w : World} {b : Nat} {x y z : Value} (h : Row w b 3 (tri x y z)) :
    (w.cell? ⟨b, 0, none⟩ = some x ∧ w.cell? ⟨b, 1, none⟩ = some y ∧ w.cell? ⟨b, 2, none⟩ = some z) ∧ w.frozen? ⟨b, 0, none⟩ = false ∧ w.frozen? ⟨b, 1, none⟩ = false ∧ w.frozen? ⟨b, 2, none⟩ = false :=
  ⟨⟨h.cell (i := 0) (by omega), h.cell (i := 1) (by omega), h.cell (i := 2) (by omega)⟩, h.frozen 0, h.frozen 1, h.frozen 2⟩
theorem Row.new3 (w : World) (x y z : Value) (e : TypeId) : Row (w.alloc (.cells #[x, y, z] e (0, 0))) w.heap.size 3 (tri x y z) :=
  (Row.of_new w #[x, y, z] e).congr fun i hi => by
    have : i = 0 ∨ i = 1 ∨ i = 2 := by simp at hi; omega
    rcases this with rfl | rfl | rfl <;> rfl
theorem rows2 (w : World) (p q r x y z : Value) (e e' : TypeId) : Row ((w.alloc (.cells #[p, q, r] e (0, 0))).alloc (.cells #[x, y, z] e' (0, 0))) w.heap.size 3 (tri p q r) ∧ Row ((w.alloc (.cells #[p, q, r] e (0, 0))).alloc (.cells #[x, y, z] e' (0, 0))) (w.heap.size + 1) 3 (tri x y z) := by
  have e1 : (w.alloc (.cells #[p, q, r] e (0, 0))).heap.size = w.heap.size + 1 := by simp
  refine ⟨(Row.new3 w p q r e).alloc _, ?_⟩
  have := Row.new3 (w.alloc (.cells #[p, q, r] e (0, 0))) x y z e'
  rw [e1] at this
  exact this
def turned (d f by' : Int) (zs : List Int) : Int := if discOkB d f zs = true ∧ inB by' (-1000) 1000 = true then (f + by') % d else f
theorem mod_mod (a d : Int) (h : 0 < d) : (a.tmod d + d).tmod d = a % d := by
  rcases Int.le_total 0 a with h0 | h0
  · rw [Int.tmod_eq_emod_of_nonneg h0, Int.tmod_eq_emod_of_nonneg (by have := Int.emod_nonneg a (Int.ne_of_gt h); omega)]
    simp
  · have h0' : a.tmod d = -((-a) % d) := by
      have e : (-a).tmod d = (-a) % d := Int.tmod_eq_emod_of_nonneg (by omega)
      rw [← e, Int.neg_tmod]; omega
    have h1 : a.tmod d ≤ 0 := by have := Int.emod_nonneg (-a) (Int.ne_of_gt h); omega
    have h2 : -d < a.tmod d := by have := Int.emod_lt_of_pos (-a) h; omega
    have h3 : a.tmod d % d = a % d := by
      have := Int.tmod_add_mul_tdiv a d
      have e : a = a.tmod d + d * a.tdiv d := by omega
      conv => rhs; rw [e]
      simp
    rw [Int.tmod_eq_emod_of_nonneg (by omega), ← h3]
    simp
theorem tmod_bd (a d : Int) (h : 0 < d) : -d < a.tmod d ∧ a.tmod d < d := by
  rcases Int.le_total 0 a with h0 | h0
  · rw [Int.tmod_eq_emod_of_nonneg h0]
    have := Int.emod_nonneg a (Int.ne_of_gt h); have := Int.emod_lt_of_pos a h; omega
  · have h0' : a.tmod d = -((-a) % d) := by
      have e : (-a).tmod d = (-a) % d := Int.tmod_eq_emod_of_nonneg (by omega)
      rw [← e, Int.neg_tmod]; omega
    have := Int.emod_nonneg (-a) (Int.ne_of_gt h); have := Int.emod_lt_of_pos (-a) h; omega
def DTurn (w : World) (d f' : Int) (n : Nat) (zs : List Int) (e : Ending) (w' : World) : Prop := ∃ g' c', e = .returned (.agg #[.int .i64 d, .int .i64 f', .slice (some ⟨g', 0, none⟩) n c']) ∧ w.heap.size ≤ g' ∧ Row w' g' n (ic zs) ∧ Below w.heap.size w w'
set_option maxHeartbeats 1000000 in
theorem sTurnDisc_any (d f by' : Int) (g n c : Nat) (zs : List Int) (w : World) (hl : zs.length = n) (hm : n ≤ 1048576) (hR : SlR w (some ⟨g, 0, none⟩) n (ic zs)) :
    Calls Try.prog 19 #[.agg #[.int .i64 d, .int .i64 f, .slice (some ⟨g, 0, none⟩) n c], .int .i64 by'] w (DTurn w d (turned d f by' zs) n zs) := by
  have HL := Lib.hid hl
  have HR := Lib.hid hR
  clear hR hl
  obtain ⟨P0, Q0⟩ := rows2 w (.int .i64 d) (.int .i64 f) (.slice (some ⟨g, 0, none⟩) n c) (.int .i64 0) (.int .i64 0) (.slice none 0 0) 26 26
  have P0 := Lib.hid P0
  have Q0 := Lib.hid Q0
  have B0 : Hid (Below w.heap.size w ((w.alloc (.cells #[.int .i64 d, .int .i64 f, .slice (some ⟨g, 0, none⟩) n c] 26)).alloc (.cells #[.int .i64 0, .int .i64 0, .slice none 0 0] 26))) := Lib.hid (by (repeat' (first | exact Below.refl _ _ | refine Below.drew ?_ | refine Below.setCell ?_ ?_ _ | refine Below.alloc ?_ ?_ _)) <;> (first | (simp; done) | (simp; omega)))
  have R0 := Lib.hid (HR.out.below B0.out)
  cases ho : discOkB d f zs
  · have HO := Lib.hid ho
    have HV : Hid (turned d f by' zs = f) := Lib.hid (by unfold turned; rw [ho]; simp)
    clear ho
    go_enter Try.func19, Try.ntmps19
    go_wp2_with fail
    refine (l18Copy_any d f g n c zs _ hm R0.out).mono ?_
    rintro e w1 ⟨g', c', rfl, hg, hr, hb⟩
    have HG : Hid (w.heap.size + 2 ≤ g') := Lib.hid (by simpa using hg)
    have P1 := Lib.hid (P0.out.below hb (by simp; omega))
    have Q1 := Lib.hid (Q0.out.below hb (by simp))
    have R1 := Lib.hid (R0.out.below hb)
    have Z1 := hb.size
    simp only [World.size_alloc] at Z1
    have B1 := Lib.hid (B0.out.trans (hb.mono B0.out.size))
    have S1 := Lib.hid hr
    have HGW : Hid (g' ≠ w1.heap.size) := Lib.hid (Nat.ne_of_lt hr.lt)
    clear hb hg hr
    have P2 := Lib.hid (P1.out.alloc (.cells #[.int .i64 d, .int .i64 f, .slice (some ⟨g', 0, none⟩) n c'] 26 (0, 0)))
    have Q2 := Lib.hid (Q1.out.alloc (.cells #[.int .i64 d, .int .i64 f, .slice (some ⟨g', 0, none⟩) n c'] 26 (0, 0)))
    have R2 := Lib.hid (R1.out.allocd (.cells #[.int .i64 d, .int .i64 f, .slice (some ⟨g', 0, none⟩) n c'] 26 (0, 0)))
    have S2 := Lib.hid (S1.out.alloc (.cells #[.int .i64 d, .int .i64 f, .slice (some ⟨g', 0, none⟩) n c'] 26 (0, 0)))
    have O2 := Lib.hid (Row.new3 w1 (.int .i64 d) (.int .i64 f) (.slice (some ⟨g', 0, none⟩) n c') 26)
    have B2 := Lib.hid (B1.out.alloc (o := .cells #[.int .i64 d, .int .i64 f, .slice (some ⟨g', 0, none⟩) n c'] 26 (0, 0)) B1.out.size)
    obtain ⟨⟨p0, p1, p2⟩, _⟩ := P1.out.tri3
    have zz : w.heap.size < w1.heap.size := by omega
    go_wp2_with fail
    refine (sDiscOk_any d f _ n c zs _ HL.out hm R2.out).mono ?_
    rw [HO.out]
    rintro e w2 ⟨rfl, hb⟩
    have zs2 : (w1.alloc (.cells #[.int .i64 d, .int .i64 f, .slice (some ⟨g', 0, none⟩) n c'] 26 (0, 0))).heap.size = w1.heap.size + 1 := by simp
    have P3 := Lib.hid (P2.out.below hb P2.out.lt)
    have Q3 := Lib.hid (Q2.out.below hb Q2.out.lt)
    have S3 := Lib.hid (S2.out.below hb S2.out.lt)
    have O3 := Lib.hid (O2.out.below hb O2.out.lt)
    have B3 := Lib.hid (B2.out.trans (hb.mono B2.out.size))
    clear hb p0 p1 p2 zs2
    obtain ⟨⟨p0, p1, p2⟩, _⟩ := P3.out.tri3
    obtain ⟨⟨q0, q1, q2⟩, q3, q4, q5⟩ := Q3.out.tri3
    obtain ⟨⟨o0, o1, o2⟩, o3, o4, o5⟩ := O3.out.tri3
    have z3 : w.heap.size + 1 ≠ w1.heap.size := by omega
    have z4 : w1.heap.size ≠ w.heap.size + 1 := by omega
    go_wp2_with (first | (go_at_call 34; (first | refine (l01In_t _ _ _ _ (by omega) (by omega)).mono ?_ | refine (l01In_f _ _ _ _ (by omega)).mono ?_); rintro e w' ⟨rfl, rfl⟩))
    refine bodyPost_ret (v := .agg #[.int .i64 d, .int .i64 f, .slice (some ⟨g', 0, none⟩) n c']) (by simp [results, Try.results19, go_sem, q0, q1, q2]) rfl ⟨g', c', by rw [HV.out], by have := HG.out; omega, ?_, ?_⟩
    · have n1 : g' ≠ w.heap.size + 1 := by have := HG.out; omega
      exact ((S3.out.set_other n1 _).set_other n1 _).set_other n1 _
    · exact ((B3.out.setCell (by simp) _).setCell (by simp) _).setCell (by simp) _
  · have HO := Lib.hid ho
    by_cases hb : -1000 ≤ by' ∧ by' ≤ 1000
    · have HV : Hid (turned d f by' zs = (f + by') % d) := Lib.hid (by unfold turned; rw [if_pos ⟨ho, inB_iff.2 hb⟩])
      obtain ⟨hb1, hb2⟩ := hb
      clear ho
      go_enter Try.func19, Try.ntmps19
      go_wp2_with fail
      refine (l18Copy_any d f g n c zs _ hm R0.out).mono ?_
      rintro e w1 ⟨g', c', rfl, hg, hr, hb⟩
      have HG : Hid (w.heap.size + 2 ≤ g') := Lib.hid (by simpa using hg)
      have P1 := Lib.hid (P0.out.below hb (by simp; omega))
      have Q1 := Lib.hid (Q0.out.below hb (by simp))
      have R1 := Lib.hid (R0.out.below hb)
      have Z1 := hb.size
      simp only [World.size_alloc] at Z1
      have B1 := Lib.hid (B0.out.trans (hb.mono B0.out.size))
      have S1 := Lib.hid hr
      have HGW : Hid (g' ≠ w1.heap.size) := Lib.hid (Nat.ne_of_lt hr.lt)
      clear hb hg hr
      have P2 := Lib.hid (P1.out.alloc (.cells #[.int .i64 d, .int .i64 f, .slice (some ⟨g', 0, none⟩) n c'] 26 (0, 0)))
      have Q2 := Lib.hid (Q1.out.alloc (.cells #[.int .i64 d, .int .i64 f, .slice (some ⟨g', 0, none⟩) n c'] 26 (0, 0)))
      have R2 := Lib.hid (R1.out.allocd (.cells #[.int .i64 d, .int .i64 f, .slice (some ⟨g', 0, none⟩) n c'] 26 (0, 0)))
      have S2 := Lib.hid (S1.out.alloc (.cells #[.int .i64 d, .int .i64 f, .slice (some ⟨g', 0, none⟩) n c'] 26 (0, 0)))
      have O2 := Lib.hid (Row.new3 w1 (.int .i64 d) (.int .i64 f) (.slice (some ⟨g', 0, none⟩) n c') 26)
      have B2 := Lib.hid (B1.out.alloc (o := .cells #[.int .i64 d, .int .i64 f, .slice (some ⟨g', 0, none⟩) n c'] 26 (0, 0)) B1.out.size)
      obtain ⟨⟨p0, p1, p2⟩, _⟩ := P1.out.tri3
      have zz : w.heap.size < w1.heap.size := by omega
      go_wp2_with fail
      refine (sDiscOk_any d f _ n c zs _ HL.out hm R2.out).mono ?_
      rw [HO.out]
      rintro e w2 ⟨rfl, hb⟩
      have zs2 : (w1.alloc (.cells #[.int .i64 d, .int .i64 f, .slice (some ⟨g', 0, none⟩) n c'] 26 (0, 0))).heap.size = w1.heap.size + 1 := by simp
      have P3 := Lib.hid (P2.out.below hb P2.out.lt)
      have Q3 := Lib.hid (Q2.out.below hb Q2.out.lt)
      have S3 := Lib.hid (S2.out.below hb S2.out.lt)
      have O3 := Lib.hid (O2.out.below hb O2.out.lt)
      have B3 := Lib.hid (B2.out.trans (hb.mono B2.out.size))
      clear hb p0 p1 p2 zs2
      obtain ⟨⟨p0, p1, p2⟩, _⟩ := P3.out.tri3
      obtain ⟨⟨q0, q1, q2⟩, q3, q4, q5⟩ := Q3.out.tri3
      obtain ⟨⟨o0, o1, o2⟩, o3, o4, o5⟩ := O3.out.tri3
      have z3 : w.heap.size + 1 ≠ w1.heap.size := by omega
      have z4 : w1.heap.size ≠ w.heap.size + 1 := by omega
      have ⟨hd1, _⟩ := discOk_iff.1 HO.out
      obtain ⟨hd1, hd2, hd3, hd4, _⟩ := hd1
      have s1 : IntKind.i64.wrap (f + by') = f + by' := IntWalk.i64_in _ (by omega)
      have s4 : ¬ d = 0 := by omega
      have s3 : IntKind.i64.wrap ((f + by').tmod d + d) = (f + by').tmod d + d := IntWalk.i64_in _ (by have := tmod_bd (f + by') d (by omega); omega)
      go_wp2_with (first | (go_at_call 34; (first | refine (l01In_t _ _ _ _ (by omega) (by omega)).mono ?_ | refine (l01In_f _ _ _ _ (by omega)).mono ?_); rintro e w' ⟨rfl, rfl⟩))
      go_region
      all_goals
        clear s1 s3 s4
        go_wp2
        refine bodyPost_ret (v := .agg #[.int .i64 d, .int .i64 (((f + by').tmod d + d).tmod d), .slice (some ⟨g', 0, none⟩) n c']) (by simp [results, Try.results19, go_sem, q0, q1, q2]) rfl ⟨g', c', by rw [HV.out, mod_mod _ _ (by omega)], by have := HG.out; omega, ?_, ?_⟩
        · have n1 : g' ≠ w.heap.size + 1 := by have := HG.out; omega
          exact (((((S3.out.set_other (p := ⟨w1.heap.size, 1, none⟩) HGW.out _).drew).set_other n1 _).set_other n1 _).set_other n1 _)
        · exact (((((B3.out.setCell (p := ⟨w1.heap.size, 1, none⟩) (by have := B1.out.size; simpa using this) _).drew).setCell (by simp) _).setCell (by simp) _).setCell (by simp) _)
    · have HV : Hid (turned d f by' zs = f) := Lib.hid (by unfold turned; rw [if_neg (fun h => hb (inB_iff.1 h.2))])
      have hb' : by' < -1000 ∨ 1000 < by' := by omega
      clear ho hb
      go_enter Try.func19, Try.ntmps19
      go_wp2_with fail
      refine (l18Copy_any d f g n c zs _ hm R0.out).mono ?_
      rintro e w1 ⟨g', c', rfl, hg, hr, hb⟩
      have HG : Hid (w.heap.size + 2 ≤ g') := Lib.hid (by simpa using hg)
      have P1 := Lib.hid (P0.out.below hb (by simp; omega))
      have Q1 := Lib.hid (Q0.out.below hb (by simp))
      have R1 := Lib.hid (R0.out.below hb)
      have Z1 := hb.size
      simp only [World.size_alloc] at Z1
      have B1 := Lib.hid (B0.out.trans (hb.mono B0.out.size))
      have S1 := Lib.hid hr
      have HGW : Hid (g' ≠ w1.heap.size) := Lib.hid (Nat.ne_of_lt hr.lt)
      clear hb hg hr
      have P2 := Lib.hid (P1.out.alloc (.cells #[.int .i64 d, .int .i64 f, .slice (some ⟨g', 0, none⟩) n c'] 26 (0, 0)))
      have Q2 := Lib.hid (Q1.out.alloc (.cells #[.int .i64 d, .int .i64 f, .slice (some ⟨g', 0, none⟩) n c'] 26 (0, 0)))
      have R2 := Lib.hid (R1.out.allocd (.cells #[.int .i64 d, .int .i64 f, .slice (some ⟨g', 0, none⟩) n c'] 26 (0, 0)))
      have S2 := Lib.hid (S1.out.alloc (.cells #[.int .i64 d, .int .i64 f, .slice (some ⟨g', 0, none⟩) n c'] 26 (0, 0)))
      have O2 := Lib.hid (Row.new3 w1 (.int .i64 d) (.int .i64 f) (.slice (some ⟨g', 0, none⟩) n c') 26)
      have B2 := Lib.hid (B1.out.alloc (o := .cells #[.int .i64 d, .int .i64 f, .slice (some ⟨g', 0, none⟩) n c'] 26 (0, 0)) B1.out.size)
      obtain ⟨⟨p0, p1, p2⟩, _⟩ := P1.out.tri3
      have zz : w.heap.size < w1.heap.size := by omega
      go_wp2_with fail
      refine (sDiscOk_any d f _ n c zs _ HL.out hm R2.out).mono ?_
      rw [HO.out]
      rintro e w2 ⟨rfl, hb⟩
      have zs2 : (w1.alloc (.cells #[.int .i64 d, .int .i64 f, .slice (some ⟨g', 0, none⟩) n c'] 26 (0, 0))).heap.size = w1.heap.size + 1 := by simp
      have P3 := Lib.hid (P2.out.below hb P2.out.lt)
      have Q3 := Lib.hid (Q2.out.below hb Q2.out.lt)
      have S3 := Lib.hid (S2.out.below hb S2.out.lt)
      have O3 := Lib.hid (O2.out.below hb O2.out.lt)
      have B3 := Lib.hid (B2.out.trans (hb.mono B2.out.size))
      clear hb p0 p1 p2 zs2
      obtain ⟨⟨p0, p1, p2⟩, _⟩ := P3.out.tri3
      obtain ⟨⟨q0, q1, q2⟩, q3, q4, q5⟩ := Q3.out.tri3
      obtain ⟨⟨o0, o1, o2⟩, o3, o4, o5⟩ := O3.out.tri3
      have z3 : w.heap.size + 1 ≠ w1.heap.size := by omega
      have z4 : w1.heap.size ≠ w.heap.size + 1 := by omega
      go_wp2_with (first | (go_at_call 34; (first | refine (l01In_t _ _ _ _ (by omega) (by omega)).mono ?_ | refine (l01In_f _ _ _ _ (by omega)).mono ?_); rintro e w' ⟨rfl, rfl⟩))
      refine bodyPost_ret (v := .agg #[.int .i64 d, .int .i64 f, .slice (some ⟨g', 0, none⟩) n c']) (by simp [results, Try.results19, go_sem, q0, q1, q2]) rfl ⟨g', c', by rw [HV.out], by have := HG.out; omega, ?_, ?_⟩
      · have n1 : g' ≠ w.heap.size + 1 := by have := HG.out; omega
        exact ((S3.out.set_other n1 _).set_other n1 _).set_other n1 _
      · exact ((B3.out.setCell (by simp) _).setCell (by simp) _).setCell (by simp) _
end Go.Proofs.Ytpafclfonclcdaa
