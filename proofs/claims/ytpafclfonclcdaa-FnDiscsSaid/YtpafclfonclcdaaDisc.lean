/-
  Discs: a disc that comes in by value, opened; contracts of szDisc, toDisc, eqDisc and markDisc of the laws' package, and of DiscOk in the program and in the reference.
  By an AI agent.
-/
import Derived.Test.YtpafclfonclcdaaInts
import Derived.Lib.SmallJoins
import Derived.Deep.Slices
import Derived.Deep.Fields
import Derived.ChangeSame
import Derived.Carry
namespace Go.Proofs.Ytpafclfonclcdaa
open Go.ChangeShapes Go.WideShapes Go.ChangeAt Go.RowKit Go.Joins Go.Deep
set_option maxRecDepth 100000
set_option linter.unusedVariables false

/-- A disc that came in. -/
structure DDisc where
  d : Int
  f : Int
  a : Option Addr
  n : Nat
  c : Nat
  zs : List Int
def DDisc.val (x : DDisc) : Value := .agg #[.int .i64 x.d, .int .i64 x.f, .slice x.a x.n x.c]
def DDisc.good (x : DDisc) (w : World) : Prop := (Lit.int .i64 x.d).wf = true ∧ (Lit.int .i64 x.f).wf = true ∧ x.zs.length = x.n ∧ x.n ≤ 9223372036854775807 ∧ (∀ z ∈ x.zs, (Lit.int .i64 z).wf = true) ∧ IArg w x.a x.n x.zs
section
variable {H : Type} {enc : TypeId × Value → H} {w : World} {r : Reach} {b0 base : Nat} {held : Bool}
theorem spot_none' {w : World} {b off : Nat} {sp : Option Nat} {v : Value} (h : w.cell? ⟨b, off, sp⟩ = some v) : sp = none := by
  by_cases hs : sp.isSome
  · exfalso
    simp only [World.cell?] at h
    split at h
    · simp [hs] at h
    · simp at h
  · simpa using hs
theorem open_ints' {n : Nat} {t : TypeId} {v : Value} {y : DataW H × List MemPlace} (ht : Try.prog.underlying t = some (.slice 3)) (h : DataW.trod enc Try.prog w base (fun _ => true) held n t [v] = some y) :
    ∃ (a : Option Addr) (len cap : Nat) (zs : List Int), v = .slice a len cap ∧ zs.length = len ∧ len ≤ 9223372036854775807 ∧ (∀ z ∈ zs, (Lit.int .i64 z).wf = true) ∧ IArg w a len zs := by
  rcases open_ints ht Try.underlying3 (by kernel_rfl) h with ⟨hcs, hx⟩ | ⟨a, len, cap, ss, hcs, _, hl, hm, hz, hx, hcell, hws⟩
  · simp at hcs
    exact ⟨none, 0, 0, [], hcs, rfl, Nat.zero_le _, fun z h => absurd h (by simp), fun h => absurd h (Nat.lt_irrefl 0)⟩
  · simp at hcs
    unfold maxLen at hm
    obtain ⟨b, off, sp⟩ := a
    have hz' : len ≤ ss.length := by simp at hz; omega
    refine ⟨some ⟨b, off, sp⟩, len, cap, ss.take len, hcs, by simp [hz'], by omega, fun z h => hws z (List.mem_of_mem_take h), fun h0 => ?_⟩
    · have h00 := hcell 0 (by omega)
      have hsp : sp = none := by
        simp only [Addr.add] at h00
        exact spot_none' (by simpa using h00)
      subst hsp
      refine ⟨b, off, rfl, fun i hi => ?_⟩
      have := hcell i (by omega)
      rw [add_at] at this
      rw [this]
      simp [ic, List.getD, hi]
theorem open_Disc {v : Value} {d : DataW H} {p : List MemPlace}
    (hv : Value.okWide Try.prog w r b0 36 v) (h : DataW.Trod enc Try.prog w base (fun _ => true) held 36 v d p) :
    ∃ x : DDisc, v = x.val ∧ x.good w := by
  obtain ⟨c0, c1, c2, y0, y1, y2, n, rfl, rfl, rfl, h0, h1, h2⟩ := open_agg3 Try.underlying36 (by kernel_rfl) (by kernel_rfl) hv h
  obtain ⟨a, e0, _, wa⟩ := DataW.trod_int Try.underlying3 h0
  obtain ⟨b, e1, _, wb⟩ := DataW.trod_int Try.underlying3 h1
  simp at e0 e1
  subst e0 e1
  obtain ⟨ad, len, cap, zs, rfl, k1, k2, k3, k4⟩ := open_ints' Try.underlying24 h2
  exact ⟨⟨a, b, ad, len, cap, zs⟩, rfl, wa, wb, k1, k2, k3, k4⟩
end

theorem szDisc_ok (d f : Int) (a : Option Addr) (n c : Nat) (left : Int) (w : World) (hl : left ≤ 1048576) (h0 : (n : Int) ≤ left) :
    Calls Try.prog 15 #[.agg #[.int .i64 d, .int .i64 f, .slice a n c], .int .i64 left] w fun e w' => e = .returned (.int .i64 (left - n)) ∧ Below w.heap.size w w' := by
  go_enter Try.func15, Try.ntmps15
  go_wp2
  go_ret
  exact ⟨rfl, Below.box _ _⟩
theorem szDisc_big (d f : Int) (a : Option Addr) (n c : Nat) (left : Int) (w : World) (hl0 : 0 ≤ left) (hl : left ≤ 1048576) (hmx : n ≤ 9223372036854775807) (h0 : left < (n : Int)) :
    Calls Try.prog 15 #[.agg #[.int .i64 d, .int .i64 f, .slice a n c], .int .i64 left] w fun e w' => e = .returned (.int .i64 (-1)) ∧ Below w.heap.size w w' := by
  go_enter Try.func15, Try.ntmps15
  go_wp2
  go_ret
  exact ⟨rfl, Below.box _ _⟩
theorem toDisc_any (d f : Int) (a : Option Addr) (n c : Nat) (zs : List Int) (w : World) (hm : n ≤ 1048576) (h : IArg w a n zs) :
    Calls Try.prog 17 #[.agg #[.int .i64 d, .int .i64 f, .slice a n c]] w fun e w' => ∃ g, e = .returned (.agg #[.int .i64 d, .int .i64 f, .slice (some ⟨g, 0, none⟩) n n]) ∧ w.heap.size ≤ g ∧ Row w' g n (ic zs) ∧ Below w.heap.size w w' := by
  have HA := Lib.hid h
  clear h
  go_enter Try.func17, Try.ntmps17
  go_wp2_with (go_at_call 31; refine (toIntS_any _ _ _ _ _ hm (HA.out.below (by (repeat' (first | exact Below.refl _ _ | refine Below.drew ?_ | refine Below.setCell ?_ ?_ _ | refine Below.alloc ?_ ?_ _)) <;> (first | (simp; done) | (simp; omega))))).mono ?_; rintro e w1 ⟨g, rfl, hg, hr, hb⟩; obtain ⟨hc, hf⟩ := bcell hb; have HG := Lib.hid hg; have HR := Lib.hid hr; have HB := Lib.hid hb; clear hg hr hb)
  have g3 := HG.out
  simp at g3
  refine bodyPost_ret (v := .agg #[.int .i64 d, .int .i64 f, .slice (some ⟨g, 0, none⟩) n n]) (by simp [results, Try.results17, go_sem, hc]) rfl ⟨g, rfl, by omega, ?_, ?_⟩
  · exact (((HR.out.set_other (show g ≠ _ by simp; omega) _).set_other (show g ≠ _ by simp; omega) _).set_other (show g ≠ _ by simp; omega) _).set_other (show g ≠ _ by simp; omega) _
  · have B1 : Below w.heap.size w _ := ((by (repeat' (first | exact Below.refl _ _ | refine Below.drew ?_ | refine Below.setCell ?_ ?_ _ | refine Below.alloc ?_ ?_ _)) <;> (first | (simp; done) | (simp; omega))) : Below w.heap.size w (((w.alloc (.cells #[.int .i64 d, .int .i64 f, .slice a n c] 36)).alloc (.cells #[.int .i64 0, .int .i64 0, .slice none 0 0] 26)).alloc (.cells #[.int .i64 d, .int .i64 f, .slice none 0 0] 26))).trans (HB.out.mono (by simp; omega))
    exact (((B1.setCell (by simp; omega) _).setCell (by simp) _).setCell (by simp) _).setCell (by simp) _
theorem eqDisc_same (d f : Int) (a b : Option Addr) (n ca cb : Nat) (zs : List Int) (w : World) (hm : n ≤ 1048576) (hA : SlR w a n (ic zs)) (hB : SlR w b n (ic zs)) :
    Calls Try.prog 18 #[.agg #[.int .i64 d, .int .i64 f, .slice a n ca], .agg #[.int .i64 d, .int .i64 f, .slice b n cb]] w fun e w' => e = .returned (.bool true) ∧ Below w.heap.size w w' := by
  have B0 : Below w.heap.size w ((w.alloc (.cells #[.int .i64 d, .int .i64 f, .slice a n ca] 26)).alloc (.cells #[.int .i64 d, .int .i64 f, .slice b n cb] 26)) := (by (repeat' (first | exact Below.refl _ _ | refine Below.drew ?_ | refine Below.setCell ?_ ?_ _ | refine Below.alloc ?_ ?_ _)) <;> (first | (simp; done) | (simp; omega)))
  have HB0 := Lib.hid B0
  have HA := Lib.hid (hA.below B0)
  have HB := Lib.hid (hB.below B0)
  clear hA hB B0
  have e1 : (d != d) = false := by simp
  have e2 : (f != f) = false := by simp
  go_enter Try.func18, Try.ntmps18
  go_wp2_with (go_at_call 32; refine (eqIntS_same _ _ _ _ _ _ _ hm HA.out HB.out).mono ?_; rintro e w1 ⟨rfl, hb⟩)
  go_ret
  exact ⟨rfl, HB0.out.trans (hb.mono (by simp; omega))⟩
theorem markDisc_any (d f : Int) (a : Option Addr) (n c : Nat) (k0 : Int) (cc : Nat → Value) (w : World) (hk0 : 0 ≤ k0) (hk1 : k0 ≤ 1000000000) (hm : n ≤ 1048576) (hR : SlR w a n cc) :
    Calls Try.prog 20 #[.agg #[.int .i64 d, .int .i64 f, .slice a n c], .int .i64 k0] w fun e w' => e = .returned (.int .i64 (k0 + n)) ∧ SlR w' a n (numc k0) ∧ Marked a n w w' := by
  have HB0 := Lib.hid (Below.box w (.cells #[.int .i64 d, .int .i64 f, .slice a n c] 26 (0, 0)))
  have HR := Lib.hid (hR.below HB0.out)
  clear hR
  go_enter Try.func20, Try.ntmps20
  go_wp2_with (go_at_call 35; refine (markIntS_any _ _ _ _ _ _ hk0 hk1 hm HR.out).mono ?_; rintro e w1 ⟨rfl, hr, hb⟩)
  go_ret
  exact ⟨rfl, hr, hb.before HB0.out⟩
theorem heldDisc_any (d f : Int) (a : Option Addr) (n c : Nat) (k0 : Int) (w : World) (hk0 : 0 ≤ k0) (hk1 : k0 ≤ 1000000000) (hm : n ≤ 1048576) (hR : SlR w a n (numc k0)) :
    Calls Try.prog 21 #[.agg #[.int .i64 d, .int .i64 f, .slice a n c], .int .i64 k0] w fun e w' => e = .returned (.int .i64 (k0 + n)) ∧ Below w.heap.size w w' := by
  have HB0 := Lib.hid (Below.box w (.cells #[.int .i64 d, .int .i64 f, .slice a n c] 26 (0, 0)))
  have HR := Lib.hid (hR.below HB0.out)
  clear hR
  go_enter Try.func21, Try.ntmps21
  go_wp2_with (go_at_call 36; refine (heldIntS_any _ _ _ _ _ hk0 hk1 hm HR.out).mono ?_; rintro e w1 ⟨rfl, rfl⟩)
  go_ret
  exact ⟨rfl, HB0.out⟩

/-! ### DiscOk -/
theorem box3 {w w1 : World} {x y z : Value} {e : TypeId} (hb : Below (w.alloc (.cells #[x, y, z] e (0, 0))).heap.size (w.alloc (.cells #[x, y, z] e (0, 0))) w1) :
    w1.cell? ⟨w.heap.size, 0, none⟩ = some x ∧ w1.cell? ⟨w.heap.size, 1, none⟩ = some y ∧ w1.cell? ⟨w.heap.size, 2, none⟩ = some z := by
  have r := (Row.of_new w #[x, y, z] e).below hb (by simp)
  exact ⟨r.cell (i := 0) (by simp), r.cell (i := 1) (by simp), r.cell (i := 2) (by simp)⟩
def picB (z : Int) : Bool := decide (0 ≤ z ∧ z ≤ 99)
theorem picB_iff {z : Int} : picB z = true ↔ 0 ≤ z ∧ z ≤ 99 := by unfold picB; simp
def picAll (zs : List Int) : Bool := zs.all picB
theorem picAll_at {zs : List Int} (h : picAll zs = true) {k : Nat} (hk : k < zs.length) : picB (zs.getD k 0) = true := by
  unfold picAll at h
  rw [List.all_eq_true] at h
  exact h _ (by rw [getD_at _ _ hk]; exact List.getElem_mem hk)
theorem picAll_of {zs : List Int} (h : ∀ k, k < zs.length → picB (zs.getD k 0) = true) : picAll zs = true := by
  unfold picAll
  rw [List.all_eq_true]
  intro p hp
  obtain ⟨k, hk, rfl⟩ := List.getElem_of_mem hp
  rw [← getD_at _ (0 : Int) hk]
  exact h k hk
theorem picAll_not {zs : List Int} {k : Nat} (hk : k < zs.length) (h : picB (zs.getD k 0) = false) : picAll zs = false := by
  cases e : picAll zs
  · rfl
  · rw [picAll_at e hk] at h; exact absurd h (by simp)
def discOkB (d f : Int) (zs : List Int) : Bool := decide (2 ≤ d ∧ d ≤ 24 ∧ 0 ≤ f ∧ f ≤ d - 1 ∧ (zs.length : Int) = d) && picAll zs
theorem discOk_iff {d f : Int} {zs : List Int} : discOkB d f zs = true ↔ (2 ≤ d ∧ d ≤ 24 ∧ 0 ≤ f ∧ f ≤ d - 1 ∧ (zs.length : Int) = d) ∧ picAll zs = true := by unfold discOkB; simp
theorem discOk_no {d f : Int} {zs : List Int} (h : ¬ (2 ≤ d ∧ d ≤ 24 ∧ 0 ≤ f ∧ f ≤ d - 1 ∧ (zs.length : Int) = d)) : discOkB d f zs = false := by unfold discOkB; simp only [decide_eq_false h, Bool.false_and]
theorem discOk_no' {d f : Int} {zs : List Int} (h : picAll zs = false) : discOkB d f zs = false := by unfold discOkB; rw [h, Bool.and_false]
theorem discOk_yes {d f : Int} {zs : List Int} (h : 2 ≤ d ∧ d ≤ 24 ∧ 0 ≤ f ∧ f ≤ d - 1 ∧ (zs.length : Int) = d) (h' : picAll zs = true) : discOkB d f zs = true := discOk_iff.2 ⟨h, h'⟩

set_option maxHeartbeats 1000000 in
theorem iDiscOk_any (d f : Int) (a : Option Addr) (n c : Nat) (zs : List Int) (w : World) (hl : zs.length = n) (hm : n ≤ 1048576) (hR : SlR w a n (ic zs)) :
    Calls Try.prog 12 #[.agg #[.int .i64 d, .int .i64 f, .slice a n c]] w fun e w' => e = .returned (.bool (discOkB d f zs)) ∧ Below w.heap.size w w' := by
  have HB0 := Lib.hid (Below.box w (.cells #[.int .i64 d, .int .i64 f, .slice a n c] 26 (0, 0)))
  have HR := Lib.hid (hR.below HB0.out)
  have HL := Lib.hid hl
  clear hR hl
  go_enter Try.func12, Try.ntmps12
  go_wp2
  go_loopw [8] (fun i wr => ∃ k : Nat, k ≤ n ∧ i = .int .i64 k ∧ (∀ j, j < k → picB (zs.getD j 0) = true) ∧ Below (w.alloc (.cells #[.int .i64 d, .int .i64 f, .slice a n c] 26 (0, 0))).heap.size (w.alloc (.cells #[.int .i64 d, .int .i64 f, .slice a n c] 26 (0, 0))) wr) (fun i _ => n - (intOf i).toNat)
  case atStart => exact ⟨0, Nat.zero_le _, rfl, fun j h => absurd h (Nat.not_lt_zero j), Below.refl _ _⟩
  case round =>
    obtain ⟨k, hk, rfl, hok, hB⟩ := hrel
    have HO := Lib.hid hok
    have HB := Lib.hid hB
    clear hok hB
    obtain ⟨b0, b1, b2⟩ := box3 HB.out
    by_cases hlt : k < n
    · obtain ⟨g, rfl, hr⟩ := (HR.out.below HB.out).row (by omega)
      have c0 := hr.cell hlt
      unfold ic at c0
      clear hr
      by_cases hp : picB (zs.getD k 0) = true
      · have X : Hid (∀ j, j < k + 1 → picB (zs.getD j 0) = true) := Lib.hid (by
          intro j hj
          by_cases e : j = k
          · rw [e]; exact hp
          · exact HO.out j (by omega))
        clear HO
        obtain ⟨p1, p2⟩ := picB_iff.1 hp
        clear hp
        generalize zs.getD k 0 = q at c0 p1 p2
        go_wp2_with (go_at_call 25; (first | refine (within_t _ _ _ _ (by omega) (by omega)).mono ?_ | refine (within_f _ _ _ _ (by omega)).mono ?_); rintro e w' ⟨rfl, rfl⟩)
        go_roundw
        case rel => exact ⟨k + 1, by omega, by go_num, X.out, HB.out⟩
        case measure => simp [intOf]; omega
      · have hp' : picB (zs.getD k 0) = false := by simpa using hp
        have HA := Lib.hid (discOk_no' (d := d) (f := f) (picAll_not (by rw [HL.out]; exact hlt) hp'))
        have hq : zs.getD k 0 < 0 ∨ 99 < zs.getD k 0 := by
          rw [picB_iff] at hp; omega
        clear HO hp hp'
        generalize zs.getD k 0 = q at c0 hq
        go_wp2_with (go_at_call 25; (first | refine (within_t _ _ _ _ (by omega) (by omega)).mono ?_ | refine (within_f _ _ _ _ (by omega)).mono ?_); rintro e w' ⟨rfl, rfl⟩)
        go_ret
        exact ⟨ret_bool HA.out.symm, HB0.out.trans (HB.out.mono (by simp))⟩
    · have hk' : k = n := by omega
      subst hk'
      have hall := picAll_of (zs := zs) (fun j hj => HO.out j (by rw [HL.out] at hj; omega))
      clear HO
      by_cases hin : 2 ≤ d ∧ d ≤ 24 ∧ 0 ≤ f ∧ f ≤ d - 1 ∧ (k : Int) = d
      · have HA := Lib.hid (discOk_yes (d := d) (f := f) (zs := zs) (by rw [HL.out]; exact hin) hall)
        obtain ⟨q1, q2, q3, q4, q5⟩ := hin
        have q6 : ((k : Int) == d) = true := by simpa using q5
        clear hall q5
        go_wp2_with (go_at_call 25; (first | refine (within_t _ _ _ _ (by omega) (by omega)).mono ?_ | refine (within_f _ _ _ _ (by omega)).mono ?_); rintro e w' ⟨rfl, rfl⟩)
        go_ret
        exact ⟨ret_bool HA.out.symm, HB0.out.trans (HB.out.mono (by simp))⟩
      · have HA := Lib.hid (discOk_no (d := d) (f := f) (zs := zs) (by rw [HL.out]; exact hin))
        have hin' : (d < 2 ∨ 24 < d) ∨ (2 ≤ d ∧ d ≤ 24 ∧ (f < 0 ∨ d - 1 < f)) ∨ (2 ≤ d ∧ d ≤ 24 ∧ 0 ≤ f ∧ f ≤ d - 1 ∧ ((k : Int) == d) = false) := by
          by_cases h5 : (k : Int) = d
          · omega
          · have h6 : ((k : Int) == d) = false := by simpa using h5
            rw [h6]; simp only [and_true]; omega
        clear hall hin
        rcases hin' with h | ⟨h1, h2, h⟩ | ⟨h1, h2, h3, h4, h⟩
        all_goals go_wp2_with (go_at_call 25; (first | refine (within_t _ _ _ _ (by omega) (by omega)).mono ?_ | refine (within_f _ _ _ _ (by omega)).mono ?_); rintro e w' ⟨rfl, rfl⟩)
        all_goals go_ret
        all_goals exact ⟨ret_bool HA.out.symm, HB0.out.trans (HB.out.mono (by simp))⟩

set_option maxHeartbeats 1000000 in
theorem sDiscOk_any (d f : Int) (a : Option Addr) (n c : Nat) (zs : List Int) (w : World) (hl : zs.length = n) (hm : n ≤ 1048576) (hR : SlR w a n (ic zs)) :
    Calls Try.prog 30 #[.agg #[.int .i64 d, .int .i64 f, .slice a n c]] w fun e w' => e = .returned (.bool (discOkB d f zs)) ∧ Below w.heap.size w w' := by
  have HB0 := Lib.hid (Below.box w (.cells #[.int .i64 d, .int .i64 f, .slice a n c] 26 (0, 0)))
  have HR := Lib.hid (hR.below HB0.out)
  have HL := Lib.hid hl
  clear hR hl
  by_cases hin : 2 ≤ d ∧ d ≤ 24 ∧ 0 ≤ f ∧ f ≤ d - 1 ∧ (n : Int) = d
  · have HIN := Lib.hid hin
    obtain ⟨q1, q2, q3, q4, q5⟩ := hin
    have q6 : ((n : Int) != d) = false := by simpa using q5
    clear q5
    go_enter Try.func30, Try.ntmps30
    go_wp2_with (go_at_call 34; (first | refine (l01In_t _ _ _ _ (by omega) (by omega)).mono ?_ | refine (l01In_f _ _ _ _ (by omega)).mono ?_); rintro e w' ⟨rfl, rfl⟩)
    go_loopw [3] (fun i wr => ∃ k : Nat, k ≤ n ∧ i = .int .i64 k ∧ (∀ j, j < k → picB (zs.getD j 0) = true) ∧ Below (w.alloc (.cells #[.int .i64 d, .int .i64 f, .slice a n c] 26 (0, 0))).heap.size (w.alloc (.cells #[.int .i64 d, .int .i64 f, .slice a n c] 26 (0, 0))) wr) (fun i _ => n - (intOf i).toNat)
    case atStart => exact ⟨0, Nat.zero_le _, rfl, fun j h => absurd h (Nat.not_lt_zero j), Below.refl _ _⟩
    case round =>
      obtain ⟨k, hk, rfl, hok, hB⟩ := hrel
      have HO := Lib.hid hok
      have HB := Lib.hid hB
      clear hok hB
      obtain ⟨b0, b1, b2⟩ := box3 HB.out
      by_cases hlt : k < n
      · obtain ⟨g, rfl, hr⟩ := (HR.out.below HB.out).row (by omega)
        have c0 := hr.cell hlt
        unfold ic at c0
        clear hr
        by_cases hp : picB (zs.getD k 0) = true
        · have X : Hid (∀ j, j < k + 1 → picB (zs.getD j 0) = true) := Lib.hid (by
            intro j hj
            by_cases e : j = k
            · rw [e]; exact hp
            · exact HO.out j (by omega))
          clear HO
          obtain ⟨p1, p2⟩ := picB_iff.1 hp
          clear hp
          generalize zs.getD k 0 = q at c0 p1 p2
          go_wp2_with (go_at_call 34; (first | refine (l01In_t _ _ _ _ (by omega) (by omega)).mono ?_ | refine (l01In_f _ _ _ _ (by omega)).mono ?_); rintro e w' ⟨rfl, rfl⟩)
          go_roundw
          case rel => exact ⟨k + 1, by omega, by go_num, X.out, HB.out⟩
          case measure => simp [intOf]; omega
        · have hp' : picB (zs.getD k 0) = false := by simpa using hp
          have HA := Lib.hid (discOk_no' (d := d) (f := f) (picAll_not (by rw [HL.out]; exact hlt) hp'))
          have hq : zs.getD k 0 < 0 ∨ 99 < zs.getD k 0 := by
            rw [picB_iff] at hp; omega
          clear HO hp hp'
          generalize zs.getD k 0 = q at c0 hq
          go_wp2_with (go_at_call 34; (first | refine (l01In_t _ _ _ _ (by omega) (by omega)).mono ?_ | refine (l01In_f _ _ _ _ (by omega)).mono ?_); rintro e w' ⟨rfl, rfl⟩)
          go_ret
          exact ⟨ret_bool HA.out.symm, HB0.out.trans (HB.out.mono (by simp))⟩
      · have hk' : k = n := by omega
        subst hk'
        have hall := picAll_of (zs := zs) (fun j hj => HO.out j (by rw [HL.out] at hj; omega))
        have HA := Lib.hid (discOk_yes (d := d) (f := f) (zs := zs) (by rw [HL.out]; exact HIN.out) hall)
        clear HO hall
        go_wp2
        go_ret
        exact ⟨ret_bool HA.out.symm, HB0.out.trans (HB.out.mono (by simp))⟩
  · have HA := Lib.hid (discOk_no (d := d) (f := f) (zs := zs) (by rw [HL.out]; exact hin))
    have hin' : (d < 2 ∨ 24 < d) ∨ (2 ≤ d ∧ d ≤ 24 ∧ (f < 0 ∨ d - 1 < f)) ∨ (2 ≤ d ∧ d ≤ 24 ∧ 0 ≤ f ∧ f ≤ d - 1 ∧ ((n : Int) != d) = true) := by
      by_cases h5 : (n : Int) = d
      · omega
      · have h6 : ((n : Int) != d) = true := by simpa using h5
        rw [h6]; simp only [and_true]; omega
    clear hin
    rcases hin' with h | ⟨h1, h2, h⟩ | ⟨h1, h2, h3, h4, h⟩
    all_goals go_enter Try.func30, Try.ntmps30
    all_goals go_wp2_with (go_at_call 34; (first | refine (l01In_t _ _ _ _ (by omega) (by omega)).mono ?_ | refine (l01In_f _ _ _ _ (by omega)).mono ?_); rintro e w' ⟨rfl, rfl⟩)
    all_goals go_ret
    all_goals exact ⟨ret_bool HA.out.symm, HB0.out⟩
end Go.Proofs.Ytpafclfonclcdaa
