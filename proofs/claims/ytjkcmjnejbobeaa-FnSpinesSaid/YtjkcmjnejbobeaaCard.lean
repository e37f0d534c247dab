/-
  Cards: a card that comes in by value, opened; contracts of szCard, toCard, eqCard and markCard of the laws' package, and of CardOk in the program and in the reference.
  By an AI agent.
-/
import Derived.Test.YtjkcmjnejbobeaaStrs
import Derived.Test.YtjkcmjnejbobeaaStrip
import Derived.Lib.SmallJoins
import Derived.Deep.Slices
import Derived.Deep.Fields
import Derived.ChangeSame
import Derived.Carry
namespace Go.Proofs.Ytjkcmjnejbobeaa
open Go.ChangeShapes Go.WideShapes Go.ChangeAt Go.RowKit Go.Joins Go.Deep
set_option maxRecDepth 100000
set_option linter.unusedVariables false

/-- A card that came in. -/
structure DCard where
  d : Int
  f : Int
  a : Option Addr
  n : Nat
  c : Nat
  ss : List ByteArray
def DCard.val (x : DCard) : Value := .agg #[.int .i64 x.d, .int .i64 x.f, .slice x.a x.n x.c]
def DCard.good (x : DCard) (w : World) : Prop := (Lit.int .i64 x.d).wf = true ∧ (Lit.int .i64 x.f).wf = true ∧ x.ss.length = x.n ∧ x.n ≤ 9223372036854775807 ∧ (∀ k, k < x.n → (x.ss.getD k ByteArray.empty).size ≤ 9223372036854775807) ∧ SArg w x.a x.n x.ss
section
variable {H : Type} {enc : TypeId × Value → H} {w : World} {r : Reach} {b0 base : Nat} {held : Bool}
theorem spot_none {w : World} {b off : Nat} {sp : Option Nat} {v : Value} (h : w.cell? ⟨b, off, sp⟩ = some v) : sp = none := by
  by_cases hs : sp.isSome
  · exfalso
    simp only [World.cell?] at h
    split at h
    · simp [hs] at h
    · simp at h
  · simpa using hs
theorem open_strs {n : Nat} {t : TypeId} {v : Value} {y : DataW H × List MemPlace} (ht : Try.prog.underlying t = some (.slice 9)) (h : DataW.trod enc Try.prog w base (fun _ => true) held n t [v] = some y) :
    ∃ (a : Option Addr) (len cap : Nat) (ss : List ByteArray), v = .slice a len cap ∧ ss.length = len ∧ len ≤ 9223372036854775807 ∧ (∀ k, k < len → (ss.getD k ByteArray.empty).size ≤ 9223372036854775807) ∧ SArg w a len ss := by
  rcases open_strings ht Try.underlying9 (by kernel_rfl) h with ⟨hcs, hx⟩ | ⟨a, len, cap, ss, hcs, _, hl, hm, hz, hx, hcell, hws⟩
  · simp at hcs
    exact ⟨none, 0, 0, [], hcs, rfl, Nat.zero_le _, fun k h => absurd h (Nat.not_lt_zero k), fun h => absurd h (Nat.lt_irrefl 0)⟩
  · simp at hcs
    unfold maxLen at hm
    obtain ⟨b, off, sp⟩ := a
    have hz' : len ≤ ss.length := by simp at hz; omega
    refine ⟨some ⟨b, off, sp⟩, len, cap, ss.take len, hcs, by simp [hz'], by omega, fun k hk => ?_, fun h0 => ?_⟩
    · have hk' : k < ss.length := by omega
      have := hws (ss.getD k ByteArray.empty) (by rw [getD_at _ _ hk']; exact List.getElem_mem hk')
      unfold maxLen at this
      simpa [List.getD, hk] using this
    · have h00 := hcell 0 (by omega)
      have hsp : sp = none := by
        simp only [Addr.add] at h00
        exact spot_none (by simpa using h00)
      subst hsp
      refine ⟨b, off, rfl, fun i hi => ?_⟩
      have := hcell i (by omega)
      rw [add_at] at this
      rw [this]
      simp [sc, List.getD, hi]
theorem open_Card {v : Value} {d : DataW H} {p : List MemPlace}
    (hv : Value.okWide Try.prog w r b0 59 v) (h : DataW.Trod enc Try.prog w base (fun _ => true) held 59 v d p) :
    ∃ x : DCard, v = x.val ∧ x.good w := by
  obtain ⟨c0, c1, c2, y0, y1, y2, n, rfl, rfl, rfl, h0, h1, h2⟩ := open_agg3 Try.underlying59 (by kernel_rfl) (by kernel_rfl) hv h
  obtain ⟨a, e0, _, wa⟩ := DataW.trod_int Try.underlying3 h0
  obtain ⟨b, e1, _, wb⟩ := DataW.trod_int Try.underlying3 h1
  simp at e0 e1
  subst e0 e1
  obtain ⟨ad, len, cap, ss, rfl, k1, k2, k3, k4⟩ := open_strs Try.underlying32 h2
  exact ⟨⟨a, b, ad, len, cap, ss⟩, rfl, wa, wb, k1, k2, k3, k4⟩
end

/-- What a card that came in takes up, by the laws' own count. -/
def DCard.bulk (x : DCard) : Nat := x.n + tot x.ss x.n
theorem szCard_ok (d f : Int) (a : Option Addr) (n c : Nat) (ss : List ByteArray) (left : Int) (w : World) (hl : left ≤ 1048576) (h0 : (n : Int) + tot ss n ≤ left) (h : SArg w a n ss) :
    Calls Try.prog 42 #[.agg #[.int .i64 d, .int .i64 f, .slice a n c], .int .i64 left] w fun e w' => e = .returned (.int .i64 (left - n - tot ss n)) ∧ Below w.heap.size w w' := by
  have HA := Lib.hid h
  have hb := (Below.refl w.heap.size w).alloc (Nat.le_refl _) (.cells #[.int .i64 d, .int .i64 f, .slice a n c] 59 (0, 0))
  have HB := Lib.hid hb
  clear h hb
  go_enter Try.func42, Try.ntmps42
  go_wp2_with (go_at_call 56; refine (szStringS_ok _ _ _ _ _ _ hl h0 (HA.out.below HB.out)).mono ?_; rintro e w' ⟨rfl, rfl⟩)
  go_ret
  exact ⟨rfl, HB.out⟩
theorem szCard_big (d f : Int) (a : Option Addr) (n c : Nat) (ss : List ByteArray) (left : Int) (w : World) (hl0 : 0 ≤ left) (hl : left ≤ 1048576) (hmx : n ≤ 9223372036854775807) (hsz : ∀ k, k < n → (ss.getD k ByteArray.empty).size ≤ 9223372036854775807)
    (h0 : left < (n : Int) + tot ss n) (h : SArg w a n ss) :
    Calls Try.prog 42 #[.agg #[.int .i64 d, .int .i64 f, .slice a n c], .int .i64 left] w fun e w' => e = .returned (.int .i64 (-1)) ∧ Below w.heap.size w w' := by
  have HA := Lib.hid h
  have HS := Lib.hid hsz
  have hb := (Below.refl w.heap.size w).alloc (Nat.le_refl _) (.cells #[.int .i64 d, .int .i64 f, .slice a n c] 59 (0, 0))
  have HB := Lib.hid hb
  clear h hb hsz
  go_enter Try.func42, Try.ntmps42
  go_wp2_with (go_at_call 56; refine (szStringS_big _ _ _ _ _ _ hl0 hl hmx HS.out h0 (HA.out.below HB.out)).mono ?_; rintro e w' ⟨rfl, rfl⟩)
  go_ret
  exact ⟨rfl, HB.out⟩
theorem toCard_any (d f : Int) (a : Option Addr) (n c : Nat) (ss : List ByteArray) (w : World) (hm : n ≤ 1048576) (h : SArg w a n ss) :
    Calls Try.prog 44 #[.agg #[.int .i64 d, .int .i64 f, .slice a n c]] w fun e w' => ∃ g, e = .returned (.agg #[.int .i64 d, .int .i64 f, .slice (some ⟨g, 0, none⟩) n n]) ∧ w.heap.size ≤ g ∧ Row w' g n (sc ss) ∧ Below w.heap.size w w' := by
  have HA := Lib.hid h
  clear h
  go_enter Try.func44, Try.ntmps44
  go_wp2_with (go_at_call 57; refine (toStringS_any _ _ _ _ _ hm (HA.out.below (by (repeat' (first | exact Below.refl _ _ | refine Below.drew ?_ | refine Below.setCell ?_ ?_ _ | refine Below.alloc ?_ ?_ _)) <;> (first | (simp; done) | (simp; omega))))).mono ?_; rintro e w1 ⟨g, rfl, hg, hr, hb⟩; obtain ⟨hc, hf⟩ := bcell hb; have HG := Lib.hid hg; have HR := Lib.hid hr; have HB := Lib.hid hb; clear hg hr hb)
  have g3 := HG.out
  simp at g3
  refine bodyPost_ret (v := .agg #[.int .i64 d, .int .i64 f, .slice (some ⟨g, 0, none⟩) n n]) (by simp [results, Try.results44, go_sem, hc]) rfl ⟨g, rfl, by omega, ?_, ?_⟩
  · exact (((HR.out.set_other (show g ≠ _ by simp; omega) _).set_other (show g ≠ _ by simp; omega) _).set_other (show g ≠ _ by simp; omega) _).set_other (show g ≠ _ by simp; omega) _
  · have B1 : Below w.heap.size w _ := ((by (repeat' (first | exact Below.refl _ _ | refine Below.drew ?_ | refine Below.setCell ?_ ?_ _ | refine Below.alloc ?_ ?_ _)) <;> (first | (simp; done) | (simp; omega))) : Below w.heap.size w (((w.alloc (.cells #[.int .i64 d, .int .i64 f, .slice a n c] 59)).alloc (.cells #[.int .i64 0, .int .i64 0, .slice none 0 0] 34)).alloc (.cells #[.int .i64 d, .int .i64 f, .slice none 0 0] 34))).trans (HB.out.mono (by simp; omega))
    exact (((B1.setCell (by simp; omega) _).setCell (by simp) _).setCell (by simp) _).setCell (by simp) _
theorem eqCard_same (d f : Int) (a b : Option Addr) (n ca cb : Nat) (ss : List ByteArray) (w : World) (hm : n ≤ 1048576) (hA : SlR w a n (sc ss)) (hB : SlR w b n (sc ss)) :
    Calls Try.prog 45 #[.agg #[.int .i64 d, .int .i64 f, .slice a n ca], .agg #[.int .i64 d, .int .i64 f, .slice b n cb]] w fun e w' => e = .returned (.bool true) ∧ Below w.heap.size w w' := by
  have B0 : Below w.heap.size w ((w.alloc (.cells #[.int .i64 d, .int .i64 f, .slice a n ca] 34)).alloc (.cells #[.int .i64 d, .int .i64 f, .slice b n cb] 34)) := (by (repeat' (first | exact Below.refl _ _ | refine Below.drew ?_ | refine Below.setCell ?_ ?_ _ | refine Below.alloc ?_ ?_ _)) <;> (first | (simp; done) | (simp; omega)))
  have HB0 := Lib.hid B0
  have HA := Lib.hid (hA.below B0)
  have HB := Lib.hid (hB.below B0)
  clear hA hB B0
  have e1 : (d != d) = false := by simp
  have e2 : (f != f) = false := by simp
  go_enter Try.func45, Try.ntmps45
  go_wp2_with (go_at_call 58; refine (eqStringS_same _ _ _ _ _ _ _ hm HA.out HB.out).mono ?_; rintro e w1 ⟨rfl, hb⟩)
  go_ret
  exact ⟨rfl, HB0.out.trans (hb.mono (by simp; omega))⟩

/-! ### CardOk -/
def stripIn (d f : Int) (s : ByteArray) : Bool := decide (downOf s = d ∧ fwdOf s = f)
def allIn (d f : Int) (ss : List ByteArray) : Bool := ss.all (stripIn d f)
def cardOkB (d f : Int) (ss : List ByteArray) : Bool := decide (1 ≤ d ∧ d ≤ 8 ∧ 1 ≤ f ∧ f ≤ 8 ∧ 1 ≤ ss.length ∧ ss.length ≤ 10) && allIn d f ss
theorem cardOk_iff {d f : Int} {ss : List ByteArray} : cardOkB d f ss = true ↔ (1 ≤ d ∧ d ≤ 8 ∧ 1 ≤ f ∧ f ≤ 8 ∧ 1 ≤ ss.length ∧ ss.length ≤ 10) ∧ allIn d f ss = true := by unfold cardOkB; simp
theorem cardOk_no {d f : Int} {ss : List ByteArray} (h : ¬ (1 ≤ d ∧ d ≤ 8 ∧ 1 ≤ f ∧ f ≤ 8 ∧ 1 ≤ ss.length ∧ ss.length ≤ 10)) : cardOkB d f ss = false := by unfold cardOkB; simp only [decide_eq_false h, Bool.false_and]
theorem cardOk_no' {d f : Int} {ss : List ByteArray} (h : allIn d f ss = false) : cardOkB d f ss = false := by unfold cardOkB; rw [h, Bool.and_false]
theorem cardOk_yes {d f : Int} {ss : List ByteArray} (h : 1 ≤ d ∧ d ≤ 8 ∧ 1 ≤ f ∧ f ≤ 8 ∧ 1 ≤ ss.length ∧ ss.length ≤ 10) (h' : allIn d f ss = true) : cardOkB d f ss = true := cardOk_iff.2 ⟨h, h'⟩
theorem stripIn_iff {d f : Int} {s : ByteArray} : stripIn d f s = true ↔ downOf s = d ∧ fwdOf s = f := by unfold stripIn; simp
theorem allIn_at {d f : Int} {ss : List ByteArray} (h : allIn d f ss = true) {k : Nat} (hk : k < ss.length) : stripIn d f (ss.getD k ByteArray.empty) = true := by
  unfold allIn at h
  rw [List.all_eq_true] at h
  exact h _ (by rw [getD_at _ _ hk]; exact List.getElem_mem hk)
theorem allIn_of {d f : Int} {ss : List ByteArray} (h : ∀ k, k < ss.length → stripIn d f (ss.getD k ByteArray.empty) = true) : allIn d f ss = true := by
  unfold allIn
  rw [List.all_eq_true]
  intro p hp
  obtain ⟨k, hk, rfl⟩ := List.getElem_of_mem hp
  rw [← getD_at _ ByteArray.empty hk]
  exact h k hk
theorem allIn_not {d f : Int} {ss : List ByteArray} {k : Nat} (hk : k < ss.length) (h : stripIn d f (ss.getD k ByteArray.empty) = false) : allIn d f ss = false := by
  cases e : allIn d f ss
  · rfl
  · rw [allIn_at e hk] at h; exact absurd h (by simp)
theorem neq_t {a b : Int} (h : a ≠ b) : (a != b) = true := by simpa using h
theorem neq_f {a b : Int} (h : a = b) : (a != b) = false := by simpa using h

theorem l02Frame_t (d f : Int) (w : World) (h : 1 ≤ d ∧ d ≤ 8 ∧ 1 ≤ f ∧ f ≤ 8) : Calls Try.prog 52 #[.int .i64 d, .int .i64 f] w fun e w' => e = .returned (.bool true) ∧ w = w' := by
  obtain ⟨h1, h2, h3, h4⟩ := h
  go_enter Try.func52, Try.ntmps52
  go_wp2_with (go_at_call 39; (first | refine (l01In_t _ _ _ _ (by omega) (by omega)).mono ?_ | refine (l01In_f _ _ _ _ (by omega)).mono ?_); rintro e w' ⟨rfl, rfl⟩)
  go_ret
  exact ⟨rfl, rfl⟩
theorem l02Frame_f (d f : Int) (w : World) (h : (d < 1 ∨ 8 < d) ∨ (1 ≤ d ∧ d ≤ 8 ∧ (f < 1 ∨ 8 < f))) : Calls Try.prog 52 #[.int .i64 d, .int .i64 f] w fun e w' => e = .returned (.bool false) ∧ w = w' := by
  rcases h with h | ⟨h1, h2, h⟩
  all_goals go_enter Try.func52, Try.ntmps52
  all_goals go_wp2_with (go_at_call 39; (first | refine (l01In_t _ _ _ _ (by omega) (by omega)).mono ?_ | refine (l01In_f _ _ _ _ (by omega)).mono ?_); rintro e w' ⟨rfl, rfl⟩)
  all_goals go_ret
  all_goals exact ⟨rfl, rfl⟩
theorem isSteps_t (d : Int) (w : World) (h1 : 1 ≤ d) (h2 : d ≤ 8) : Calls Try.prog 65 #[.int .i64 d] w fun e w' => e = .returned (.bool true) ∧ w = w' := by
  go_enter Try.func65, Try.ntmps65
  go_wp2_with (go_at_call 41; (first | refine (within_t _ _ _ _ (by omega) (by omega)).mono ?_ | refine (within_f _ _ _ _ (by omega)).mono ?_); rintro e w' ⟨rfl, rfl⟩)
  go_ret
  exact ⟨rfl, rfl⟩
theorem isSteps_f (d : Int) (w : World) (h : d < 1 ∨ 8 < d) : Calls Try.prog 65 #[.int .i64 d] w fun e w' => e = .returned (.bool false) ∧ w = w' := by
  go_enter Try.func65, Try.ntmps65
  go_wp2_with (go_at_call 41; (first | refine (within_t _ _ _ _ (by omega) (by omega)).mono ?_ | refine (within_f _ _ _ _ (by omega)).mono ?_); rintro e w' ⟨rfl, rfl⟩)
  go_ret
  exact ⟨rfl, rfl⟩

theorem box3 {w w1 : World} {x y z : Value} {e : TypeId} (hb : Below (w.alloc (.cells #[x, y, z] e (0, 0))).heap.size (w.alloc (.cells #[x, y, z] e (0, 0))) w1) :
    w1.cell? ⟨w.heap.size, 0, none⟩ = some x ∧ w1.cell? ⟨w.heap.size, 1, none⟩ = some y ∧ w1.cell? ⟨w.heap.size, 2, none⟩ = some z := by
  have r := (Row.of_new w #[x, y, z] e).below hb (by simp)
  exact ⟨r.cell (i := 0) (by simp), r.cell (i := 1) (by simp), r.cell (i := 2) (by simp)⟩

set_option maxHeartbeats 1000000 in
theorem iCardOk_any (d f : Int) (a : Option Addr) (n c : Nat) (ss : List ByteArray) (w : World) (hl : ss.length = n) (hm : (n : Int) + tot ss n ≤ 1048576) (hR : SlR w a n (sc ss)) :
    Calls Try.prog 49 #[.agg #[.int .i64 d, .int .i64 f, .slice a n c]] w fun e w' => e = .returned (.bool (cardOkB d f ss)) ∧ Below w.heap.size w w' := by
  have HB0 := Lib.hid ((Below.refl w.heap.size w).alloc (Nat.le_refl _) (.cells #[.int .i64 d, .int .i64 f, .slice a n c] 34 (0, 0)))
  have HR := Lib.hid (hR.below HB0.out)
  have HL := Lib.hid hl
  clear hR hl
  go_enter Try.func49, Try.ntmps49
  go_wp2
  go_loopw [8] (fun i wr => ∃ k : Nat, k ≤ n ∧ i = .int .i64 k ∧ (∀ j, j < k → stripIn d f (ss.getD j ByteArray.empty) = true) ∧ Below (w.alloc (.cells #[.int .i64 d, .int .i64 f, .slice a n c] 34 (0, 0))).heap.size (w.alloc (.cells #[.int .i64 d, .int .i64 f, .slice a n c] 34 (0, 0))) wr) (fun i _ => n - (intOf i).toNat)
  case atStart => exact ⟨0, Nat.zero_le _, rfl, fun j h => absurd h (Nat.not_lt_zero j), Below.refl _ _⟩
  case round =>
    obtain ⟨k, hk, rfl, hok, hB⟩ := hrel
    have HO := Lib.hid hok
    have HB := Lib.hid hB
    clear hok hB
    obtain ⟨b0, b1, b2⟩ := box3 HB.out
    by_cases hlt : k < n
    · obtain ⟨g, rfl, hr⟩ := (HR.out.below HB.out).row (by omega)
      have c0 := hr.cell hlt
      have hz := tot_at ss hlt
      unfold sc at c0
      clear hr
      by_cases hp : stripIn d f (ss.getD k ByteArray.empty) = true
      · have X : Hid (∀ j, j < k + 1 → stripIn d f (ss.getD j ByteArray.empty) = true) := Lib.hid (by
          intro j hj
          by_cases e : j = k
          · rw [e]; exact hp
          · exact HO.out j (by omega))
        clear HO
        obtain ⟨p1, p2⟩ := stripIn_iff.1 hp
        clear hp
        generalize ss.getD k ByteArray.empty = q at c0 p1 p2 hz
        have e1 := neq_f p1
        have e2 := neq_f p2
        clear p1 p2
        go_wp2
        go_quiet ((first | (go_at_call 63; exact quiet_eq (iDownOf_any _ _ (by omega))) | (go_at_call 64; exact quiet_eq (iForwardOf_any _ _ (by omega)))))
        go_wp2
        go_roundw
        case rel => exact ⟨k + 1, by omega, by go_num, X.out, below_drewN HB.out _⟩
        case measure => simp [intOf]; omega
      · have hp' : stripIn d f (ss.getD k ByteArray.empty) = false := by simpa using hp
        have HA := Lib.hid (cardOk_no' (allIn_not (by rw [HL.out]; exact hlt) hp'))
        clear HO hp
        generalize ss.getD k ByteArray.empty = q at c0 hp' hz
        by_cases h1 : downOf q = d
        · have e1 := neq_f h1
          have h2 : fwdOf q ≠ f := fun h => by rw [stripIn_iff.2 ⟨h1, h⟩] at hp'; exact absurd hp' (by simp)
          have e2 := neq_t h2
          clear h1 h2 hp'
          go_wp2
          go_quiet ((first | (go_at_call 63; exact quiet_eq (iDownOf_any _ _ (by omega))) | (go_at_call 64; exact quiet_eq (iForwardOf_any _ _ (by omega)))))
          go_wp2
          go_ret
          exact ⟨ret_bool HA.out.symm, HB0.out.trans ((below_drewN HB.out _).mono (by simp))⟩
        · have e1 := neq_t h1
          clear h1 hp'
          go_wp2
          go_quiet ((first | (go_at_call 63; exact quiet_eq (iDownOf_any _ _ (by omega))) | (go_at_call 64; exact quiet_eq (iForwardOf_any _ _ (by omega)))))
          go_wp2
          go_ret
          exact ⟨ret_bool HA.out.symm, HB0.out.trans ((below_drewN HB.out _).mono (by simp))⟩
    · have hk' : k = n := by omega
      subst hk'
      have hall := allIn_of (d := d) (f := f) (ss := ss) (fun j hj => HO.out j (by rw [HL.out] at hj; omega))
      clear HO
      by_cases hin : 1 ≤ d ∧ d ≤ 8 ∧ 1 ≤ f ∧ f ≤ 8 ∧ 1 ≤ k ∧ k ≤ 10
      · have HA := Lib.hid (cardOk_yes (d := d) (f := f) (ss := ss) (by rw [HL.out]; exact hin) hall)
        obtain ⟨q1, q2, q3, q4, q5, q6⟩ := hin
        clear hall
        go_wp2_with (first | (go_at_call 65; refine (isSteps_t _ _ (by omega) (by omega)).mono ?_; rintro e w' ⟨rfl, rfl⟩) | (go_at_call 41; (first | refine (within_t _ _ _ _ (by omega) (by omega)).mono ?_ | refine (within_f _ _ _ _ (by omega)).mono ?_); rintro e w' ⟨rfl, rfl⟩))
        go_ret
        exact ⟨ret_bool HA.out.symm, HB0.out.trans (HB.out.mono (by simp))⟩
      · have HA := Lib.hid (cardOk_no (d := d) (f := f) (ss := ss) (by rw [HL.out]; exact hin))
        have hin' : (d < 1 ∨ 8 < d) ∨ (1 ≤ d ∧ d ≤ 8 ∧ (f < 1 ∨ 8 < f)) ∨ (1 ≤ d ∧ d ≤ 8 ∧ 1 ≤ f ∧ f ≤ 8 ∧ (k < 1 ∨ 10 < k)) := by omega
        clear hall hin
        rcases hin' with h | ⟨h1, h2, h⟩ | ⟨h1, h2, h3, h4, h⟩
        all_goals go_wp2_with (first | (go_at_call 65; (first | refine (isSteps_t _ _ (by omega) (by omega)).mono ?_ | refine (isSteps_f _ _ (by omega)).mono ?_); rintro e w' ⟨rfl, rfl⟩) | (go_at_call 41; (first | refine (within_t _ _ _ _ (by omega) (by omega)).mono ?_ | refine (within_f _ _ _ _ (by omega)).mono ?_); rintro e w' ⟨rfl, rfl⟩))
        all_goals go_ret
        all_goals exact ⟨ret_bool HA.out.symm, HB0.out.trans (HB.out.mono (by simp))⟩

set_option maxHeartbeats 1000000 in
theorem sCardOk_any (d f : Int) (a : Option Addr) (n c : Nat) (ss : List ByteArray) (w : World) (hl : ss.length = n) (hm : (n : Int) + tot ss n ≤ 1048576) (hR : SlR w a n (sc ss)) :
    Calls Try.prog 38 #[.agg #[.int .i64 d, .int .i64 f, .slice a n c]] w fun e w' => e = .returned (.bool (cardOkB d f ss)) ∧ Below w.heap.size w w' := by
  have HB0 := Lib.hid ((Below.refl w.heap.size w).alloc (Nat.le_refl _) (.cells #[.int .i64 d, .int .i64 f, .slice a n c] 34 (0, 0)))
  have HR := Lib.hid (hR.below HB0.out)
  have HL := Lib.hid hl
  clear hR hl
  by_cases hin : 1 ≤ d ∧ d ≤ 8 ∧ 1 ≤ f ∧ f ≤ 8 ∧ 1 ≤ n ∧ n ≤ 10
  · have HIN := Lib.hid hin
    obtain ⟨q1, q2, q3, q4, q5, q6⟩ := hin
    go_enter Try.func38, Try.ntmps38
    go_wp2_with (first | (go_at_call 52; refine (l02Frame_t _ _ _ ⟨q1, q2, q3, q4⟩).mono ?_; rintro e w' ⟨rfl, rfl⟩) | (go_at_call 39; (first | refine (l01In_t _ _ _ _ (by omega) (by omega)).mono ?_ | refine (l01In_f _ _ _ _ (by omega)).mono ?_); rintro e w' ⟨rfl, rfl⟩))
    go_loopw [3] (fun i wr => ∃ k : Nat, k ≤ n ∧ i = .int .i64 k ∧ (∀ j, j < k → stripIn d f (ss.getD j ByteArray.empty) = true) ∧ Below (w.alloc (.cells #[.int .i64 d, .int .i64 f, .slice a n c] 34 (0, 0))).heap.size (w.alloc (.cells #[.int .i64 d, .int .i64 f, .slice a n c] 34 (0, 0))) wr) (fun i _ => n - (intOf i).toNat)
    case atStart => exact ⟨0, Nat.zero_le _, rfl, fun j h => absurd h (Nat.not_lt_zero j), Below.refl _ _⟩
    case round =>
      obtain ⟨k, hk, rfl, hok, hB⟩ := hrel
      have HO := Lib.hid hok
      have HB := Lib.hid hB
      clear hok hB
      obtain ⟨b0, b1, b2⟩ := box3 HB.out
      have i0 : (0 : Int) ≤ (k : Int) := Int.natCast_nonneg _
      by_cases hlt : k < n
      · obtain ⟨g, rfl, hr⟩ := (HR.out.below HB.out).row (by omega)
        have c0 := hr.cell hlt
        have hz := tot_at ss hlt
        have i1 : (k : Int) < (n : Int) := by omega
        unfold sc at c0
        clear hr
        by_cases hp : stripIn d f (ss.getD k ByteArray.empty) = true
        · have X : Hid (∀ j, j < k + 1 → stripIn d f (ss.getD j ByteArray.empty) = true) := Lib.hid (by
            intro j hj
            by_cases e : j = k
            · rw [e]; exact hp
            · exact HO.out j (by omega))
          clear HO
          obtain ⟨p1, p2⟩ := stripIn_iff.1 hp
          clear hp
          generalize ss.getD k ByteArray.empty = q at c0 p1 p2 hz
          have e1 := neq_f p1
          have e2 := neq_f p2
          clear p1 p2
          go_wp2
          go_quiet ((first | (go_at_call 53; exact quiet_eq (sDownOf_any _ _ (by omega))) | (go_at_call 54; exact quiet_eq (sForwardOf_any _ _ (by omega)))))
          go_wp2
          go_roundw
          case rel => exact ⟨k + 1, by omega, by go_num, X.out, below_drewN HB.out _⟩
          case measure => simp [intOf]; omega
        · have hp' : stripIn d f (ss.getD k ByteArray.empty) = false := by simpa using hp
          have HA := Lib.hid (cardOk_no' (allIn_not (by rw [HL.out]; exact hlt) hp'))
          clear HO hp
          generalize ss.getD k ByteArray.empty = q at c0 hp' hz
          by_cases h1 : downOf q = d
          · have e1 := neq_f h1
            have h2 : fwdOf q ≠ f := fun h => by rw [stripIn_iff.2 ⟨h1, h⟩] at hp'; exact absurd hp' (by simp)
            have e2 := neq_t h2
            clear h1 h2 hp'
            go_wp2
            go_quiet ((first | (go_at_call 53; exact quiet_eq (sDownOf_any _ _ (by omega))) | (go_at_call 54; exact quiet_eq (sForwardOf_any _ _ (by omega)))))
            go_wp2
            go_ret
            exact ⟨ret_bool HA.out.symm, HB0.out.trans ((below_drewN HB.out _).mono (by simp))⟩
          · have e1 := neq_t h1
            clear h1 hp'
            go_wp2
            go_quiet ((first | (go_at_call 53; exact quiet_eq (sDownOf_any _ _ (by omega))) | (go_at_call 54; exact quiet_eq (sForwardOf_any _ _ (by omega)))))
            go_wp2
            go_ret
            exact ⟨ret_bool HA.out.symm, HB0.out.trans ((below_drewN HB.out _).mono (by simp))⟩
      · have hk' : k = n := by omega
        subst hk'
        have hall := allIn_of (d := d) (f := f) (ss := ss) (fun j hj => HO.out j (by rw [HL.out] at hj; omega))
        have HA := Lib.hid (cardOk_yes (d := d) (f := f) (ss := ss) (by rw [HL.out]; exact HIN.out) hall)
        clear HO hall
        go_wp2
        go_ret
        exact ⟨ret_bool HA.out.symm, HB0.out.trans (HB.out.mono (by simp))⟩
  · have HA := Lib.hid (cardOk_no (d := d) (f := f) (ss := ss) (by rw [HL.out]; exact hin))
    have hin' : ((d < 1 ∨ 8 < d) ∨ (1 ≤ d ∧ d ≤ 8 ∧ (f < 1 ∨ 8 < f))) ∨ (1 ≤ d ∧ d ≤ 8 ∧ 1 ≤ f ∧ f ≤ 8 ∧ (n < 1 ∨ 10 < n)) := by omega
    clear hin
    rcases hin' with h | ⟨h1, h2, h3, h4, h⟩
    · have HF := Lib.hid h
      clear h
      go_enter Try.func38, Try.ntmps38
      go_wp2_with (go_at_call 52; refine (l02Frame_f _ _ _ HF.out).mono ?_; rintro e w' ⟨rfl, rfl⟩)
      go_ret
      exact ⟨ret_bool HA.out.symm, HB0.out⟩
    · go_enter Try.func38, Try.ntmps38
      go_wp2_with (first | (go_at_call 52; refine (l02Frame_t _ _ _ ⟨h1, h2, h3, h4⟩).mono ?_; rintro e w' ⟨rfl, rfl⟩) | (go_at_call 39; (first | refine (l01In_t _ _ _ _ (by omega) (by omega)).mono ?_ | refine (l01In_f _ _ _ _ (by omega)).mono ?_); rintro e w' ⟨rfl, rfl⟩))
      go_ret
      exact ⟨ret_bool HA.out.symm, HB0.out⟩
end Go.Proofs.Ytjkcmjnejbobeaa
