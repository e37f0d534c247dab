/-
  Cards of the call's own, with the region of blocks that they lie in; the contract of markCardS.
  By an AI agent.
-/
import Derived.Test.YtjkcmjnejbobeaaCardL
import Derived.Test.YtjkcmjnejbobeaaReg
namespace Go.Proofs.Ytjkcmjnejbobeaa
open Go.ChangeShapes Go.WideShapes Go.ChangeAt Go.RowKit Go.Joins Go.Deep
set_option maxRecDepth 100000
set_option linter.unusedVariables false

def OCard (w : World) (lo hi g n : Nat) (xs : List DCard) : Prop := (lo ≤ g ∧ g < hi) ∧ ∃ A : Nat → Nat, Row w g (n * 3) (rCard xs A) ∧ ∀ i, i < n → (lo ≤ A i ∧ A i < hi ∧ A i ≠ g ∧ ∀ j, j < i → A j ≠ A i) ∧ Row w (A i) (xs.getD i default).n (sc (xs.getD i default).ss)
section
variable {w w' : World} {lo hi g n : Nat} {xs : List DCard}
theorem OCard.below (h : OCard w lo hi g n xs) (hb : Below w.heap.size w w') : OCard w' lo hi g n xs := by
  obtain ⟨h0, A, h1, h2⟩ := h
  exact ⟨h0, A, h1.below hb h1.lt, fun i hi => ⟨(h2 i hi).1, (h2 i hi).2.below hb (h2 i hi).2.lt⟩⟩
theorem OCard.l (h : OCard w lo hi g n xs) : LCard w g n xs := by
  obtain ⟨h0, A, h1, h2⟩ := h
  exact ⟨A, h1, fun i hi => (h2 i hi).2⟩
theorem Marked.row {b N M : Nat} {c : Nat → Value} (h : Marked (some ⟨b, 0, none⟩) N w w') (hr : Row w g M c) (hn : g ≠ b) : Row w' g M c := by
  rcases h with ⟨_, h⟩ | ⟨_, k, hk, h⟩
  · exact hr.below h hr.lt
  · simp only [Option.some.injEq, Addr.mk.injEq, and_true] at hk
    exact hr.of_heap (h.block g hr.lt (by omega))
end
set_option maxHeartbeats 2000000 in
theorem toCardS_reg (a : Option Addr) (n c : Nat) (xs : List DCard) (w : World) (hm : n ≤ 1048576) (hms : ∀ i, i < n → (xs.getD i default).n ≤ 1048576) (h : ACard w a n xs) :
    Calls Try.prog 20 #[.slice a n c] w fun e w' => ∃ g, e = .returned (.slice (some ⟨g, 0, none⟩) n n) ∧ OCard w' w.heap.size w'.heap.size g n xs ∧ Below w.heap.size w w' := by
  obtain ⟨i0, hi0, hz0, hz1, hz2⟩ := info_parts infoCard
  have HA := Lib.hid h
  have HM := Lib.hid hms
  clear h hms
  go_enter Try.func20, Try.ntmps20
  go_wp2_with (at_make; refine wpList_make_full _ rfl _ _ 24 rfl w.heap.size 34 i0 _ 3 Try.underlying24 hi0 hz0 hz1 .i64 .i64 n n n rfl rfl rfl rfl (by rw [hz2]; omega) (by unfold maxLen; omega) (Nat.le_refl _) ?_; intro w1 own1 gr1)
  have R0 := Row.of_owns own1
  have B0 : Below w.heap.size w w1 := (Below.refl _ _).grown gr1 (Nat.le_refl _) (by simp)
  clear own1 gr1
  generalize (fun i => (madeCells _ _).toList.getD i undef) = z at R0
  have R1 : Row w1 w.heap.size (n * 3) (fun q => if q < 0 * 3 then rCard xs (fun _ => 0) q else z q) := R0.congr fun q _ => by rw [if_neg (by omega)]
  clear R0
  go_loopw [4] (fun i wr => ∃ (k : Nat) (A : Nat → Nat), k ≤ n ∧ i = .int .i64 k ∧ Row wr w.heap.size (n * 3) (fun q => if q < k * 3 then rCard xs A q else z q) ∧ (∀ i, i < k → (w.heap.size ≤ A i ∧ A i < wr.heap.size ∧ A i ≠ w.heap.size ∧ ∀ j, j < i → A j ≠ A i) ∧ Row wr (A i) (xs.getD i default).n (sc (xs.getD i default).ss)) ∧ Below w.heap.size w wr) (fun i _ => n - (intOf i).toNat)
  case atStart => exact ⟨0, _, Nat.zero_le _, rfl, R1, fun i h => absurd h (Nat.not_lt_zero i), B0⟩
  case round =>
    obtain ⟨k, A, hk, rfl, hR, hS, hB⟩ := hrel
    have HR := Lib.hid hR
    have HS := Lib.hid hS
    have HB := Lib.hid hB
    clear hR hS hB
    by_cases hlt : k < n
    · obtain ⟨b, off, rfl, hP⟩ := HA.out.below HB.out (by omega)
      obtain ⟨⟨c0, c1, c2⟩, hs⟩ := hP k hlt
      have hmk := HM.out k hlt
      have HX := Lib.hid hs
      have Q : Hid (∀ x, rCard xs (fun i => if i = k then x else A i) (k * 3) = .int .i64 (xs.getD k default).d ∧ rCard xs (fun i => if i = k then x else A i) (k * 3 + 1) = .int .i64 (xs.getD k default).f ∧ rCard xs (fun i => if i = k then x else A i) (k * 3 + 2) = .slice (some ⟨x, 0, none⟩) (xs.getD k default).n (xs.getD k default).n) := Lib.hid (fun x => ⟨(rCard_0 xs _ k).trans (by first | rfl | rw [if_pos rfl]), (rCard_1 xs _ k).trans (by first | rfl | rw [if_pos rfl]), (rCard_2 xs _ k).trans (by first | rfl | rw [if_pos rfl])⟩)
      have NK : Hid (∀ x : Nat, ∀ W : World, wr.heap.size ≤ x → Row W x (xs.getD k default).n (sc (xs.getD k default).ss) → x ≠ w.heap.size → (∀ i, i < k → Row W (A i) (xs.getD i default).n (sc (xs.getD i default).ss)) →
          ∀ i, i < k + 1 → (w.heap.size ≤ (if i = k then x else A i) ∧ (if i = k then x else A i) < W.heap.size ∧ (if i = k then x else A i) ≠ w.heap.size ∧ ∀ j, j < i → (if j = k then x else A j) ≠ (if i = k then x else A i)) ∧ Row W (if i = k then x else A i) (xs.getD i default).n (sc (xs.getD i default).ss)) := Lib.hid (by
        intro x W h0 h1 h2 h3 i hi
        have hsz := HB.out.size
        by_cases e : i = k
        · subst e
          rw [if_pos rfl]
          refine ⟨⟨by omega, h1.lt, h2, fun j hj => ?_⟩, h1⟩
          rw [if_neg (by omega)]
          have := (HS.out j hj).1.2.1
          omega
        · have hik : i < k := by omega
          rw [if_neg e]
          obtain ⟨⟨s1, s2, s3, s4⟩, _⟩ := HS.out i hik
          refine ⟨⟨s1, (h3 i hik).lt, s3, fun j hj => ?_⟩, h3 i hik⟩
          rw [if_neg (by omega)]
          exact s4 j hj)
      clear hP hs
      generalize xs.getD k default = x at *
      have m0 : k * 3 < n * 3 := by omega
      have m1 : k * 3 + 1 < n * 3 := by omega
      have m2 : k * 3 + 2 < n * 3 := by omega
      generalize hzz : (fun q => if q < k * 3 then rCard xs A q else z q) = zq at *
      obtain ⟨d0, D0⟩ : ∃ d, zq (k * 3) = d := ⟨_, rfl⟩
      obtain ⟨d1, D1⟩ : ∃ d, zq (k * 3 + 1) = d := ⟨_, rfl⟩
      obtain ⟨d2, D2⟩ : ∃ d, zq (k * 3 + 2) = d := ⟨_, rfl⟩
      subst hzz
      have DD0 := Lib.hid D0
      clear D0
      have DD1 := Lib.hid D1
      clear D1
      have DD2 := Lib.hid D2
      clear D2
      go_wp2_with (go_at_call 44; refine (toCard_any x.d x.f x.a x.n x.c x.ss _ hmk HX.out).mono ?_; rintro e w2 ⟨y, rfl, hy, hry, hb2⟩; have HB2 := Lib.hid hb2; have HRY := Lib.hid hry; have hr2 := HR.out.below hb2 HR.out.lt; have HR2 := Lib.hid hr2; have hY := HR.out.lt; have e0 := (hr2.cell m0).trans (congrArg some DD0.out); have f0 := hr2.frozen (k * 3); have e1 := (hr2.cell m1).trans (congrArg some DD1.out); have f1 := hr2.frozen (k * 3 + 1); have e2 := (hr2.cell m2).trans (congrArg some DD2.out); have f2 := hr2.frozen (k * 3 + 2); clear hr2 hb2 hry)
      have zz : y ≠ w.heap.size := by omega
      go_roundw
      case rel =>
        refine ⟨k + 1, (fun i => if i = k then y else A i), by omega, by go_num, rCard_set HR2.out ((Q.out y).1).symm ((Q.out y).2.1).symm ((Q.out y).2.2).symm, ?_, (((HB.out.trans (HB2.out.mono HB.out.size)).setCell (Nat.le_refl _) _).setCell (Nat.le_refl _) _).setCell (Nat.le_refl _) _⟩
        intro i hi
        have h3 := NK.out y w2 hy HRY.out zz (fun i hi => (HS.out i hi).2.below HB2.out (HS.out i hi).2.lt) i hi
        exact ⟨⟨h3.1.1, by simpa using h3.1.2.1, h3.1.2.2⟩, ((h3.2.set_other (p := ⟨w.heap.size, k * 3, none⟩) h3.1.2.2.1 _).set_other (p := ⟨w.heap.size, k * 3 + 1, none⟩) h3.1.2.2.1 _).set_other (p := ⟨w.heap.size, k * 3 + 2, none⟩) h3.1.2.2.1 _⟩
      case measure => simp [intOf]; omega
    · have hk' : k = n := by omega
      subst hk'
      have hl := HR.out.lt
      have HF : Hid (OCard wr w.heap.size wr.heap.size w.heap.size k xs) := Lib.hid ⟨⟨Nat.le_refl _, hl⟩, A, HR.out.congr (fun q hq => if_pos hq), HS.out⟩
      clear HR HS
      go_wp2
      go_ret
      exact ⟨_, rfl, HF.out, HB.out⟩

/-- How far the marks go. -/
def markN (xs : List DCard) : Nat → Nat
  | 0 => 0
  | k + 1 => markN xs k + 2 + (xs.getD k default).n
theorem markN_le (xs : List DCard) (k : Nat) : markN xs k ≤ 2 * k + sumCard xs k := by
  induction k with
  | zero => exact Nat.le_refl _
  | succ k ih => show markN xs k + 2 + _ ≤ 2 * (k + 1) + (sumCard xs k + bulkCard (xs.getD k default)); unfold bulkCard; omega
set_option maxHeartbeats 2000000 in
theorem markCardS_any (lo hi g n c : Nat) (k0 : Int) (xs : List DCard) (w : World) (hk0 : 1 ≤ k0) (hk1 : k0 ≤ 1000) (hm : n + sumCard xs n ≤ 1048576) (hR : OCard w lo hi g n xs) :
    Calls Try.prog 23 #[.slice (some ⟨g, 0, none⟩) n c, .int .i64 k0] w fun e w' => e = .returned (.int .i64 (k0 + markN xs n)) ∧ Reg lo hi w w' := by
  obtain ⟨⟨h0, h00⟩, A, hr, hrows⟩ := hR
  have HF : Hid (∀ i, i < n → lo ≤ A i ∧ A i < hi ∧ A i ≠ g ∧ ∀ j, j < i → A j ≠ A i) := Lib.hid (fun i hi => (hrows i hi).1)
  have HR0 := Lib.hid hr
  have HRS0 : Hid (∀ i, 0 ≤ i → i < n → Row w (A i) (xs.getD i default).n (sc (xs.getD i default).ss)) := Lib.hid (fun i _ hi => (hrows i hi).2)
  clear hr hrows
  go_enter Try.func23, Try.ntmps23
  go_wp2
  go_loopw [1, 5] (fun s i wr => ∃ (j : Nat) (d : Nat → Value), j ≤ n ∧ i = .int .i64 j ∧ s = .int .i64 (k0 + markN xs j) ∧ Row wr g (n * 3) d ∧ (∀ i, j ≤ i → i < n → d (i * 3 + 2) = .slice (some ⟨A i, 0, none⟩) (xs.getD i default).n (xs.getD i default).n) ∧ (∀ i, j ≤ i → i < n → Row wr (A i) (xs.getD i default).n (sc (xs.getD i default).ss)) ∧ Reg lo hi w wr) (fun _ i _ => n - (intOf i).toNat)
  case atStart => exact ⟨0, _, Nat.zero_le _, rfl, congrArg (Value.int .i64) (by simp [markN]), HR0.out, fun i _ _ => rCard_2 xs A i, HRS0.out, Reg.refl _ _ _⟩
  case round =>
    obtain ⟨j, d, hj, rfl, rfl, hR, hD, hS, hG⟩ := hrel
    have HR := Lib.hid hR
    have HS := Lib.hid hS
    have HD := Lib.hid hD
    have HG := Lib.hid hG
    clear hR hS hD hG
    by_cases hlt : j < n
    · have hb1 := markN_le xs j
      have hb2 := sumCard_mono xs (show j + 1 ≤ n from hlt)
      have HT : Hid (markN xs (j + 1) = markN xs j + 2 + (xs.getD j default).n) := Lib.hid rfl
      have hT2 : sumCard xs (j + 1) = sumCard xs j + bulkCard (xs.getD j default) := rfl
      unfold bulkCard at hT2
      have c0 := HR.out.cell (i := j * 3) (by omega)
      have c1 := HR.out.cell (i := j * 3 + 1) (by omega)
      have c2 := HR.out.cell (i := j * 3 + 2) (by omega)
      rw [HD.out j (Nat.le_refl _) hlt] at c2
      have f0 := HR.out.frozen (j * 3)
      have f1 := HR.out.frozen (j * 3 + 1)
      have HJ := Lib.hid (HS.out j (Nat.le_refl _) hlt)
      obtain ⟨g1, g2, g3, g4⟩ := HF.out j hlt
      have HST : Hid (∀ u v, Row ((wr.setCell ⟨g, j * 3, none⟩ u).setCell ⟨g, j * 3 + 1, none⟩ v) g (n * 3) (fun q => if q = j * 3 + 1 then v else if q = j * 3 then u else d q)) := Lib.hid (fun u v => (HR.out.set _ _).set _ _)
      have HSA : Hid (∀ u v i, j ≤ i → i < n → Row ((wr.setCell ⟨g, j * 3, none⟩ u).setCell ⟨g, j * 3 + 1, none⟩ v) (A i) (xs.getD i default).n (sc (xs.getD i default).ss)) := Lib.hid (fun u v i h1 h2 => ((HS.out i h1 h2).set_other (p := ⟨g, j * 3, none⟩) (HF.out i h2).2.2.1 _).set_other (p := ⟨g, j * 3 + 1, none⟩) (HF.out i h2).2.2.1 _)
      have HSG : Hid (∀ u v, Reg lo hi w ((wr.setCell ⟨g, j * 3, none⟩ u).setCell ⟨g, j * 3 + 1, none⟩ v)) := Lib.hid (fun u v => (HG.out.set _ _ h0 h00).set _ _ h0 h00)
      have HJ2 : Hid (∀ u v, Row ((wr.setCell ⟨g, j * 3, none⟩ u).setCell ⟨g, j * 3 + 1, none⟩ v) (A j) (xs.getD j default).n (sc (xs.getD j default).ss)) := Lib.hid (fun u v => HSA.out u v j (Nat.le_refl _) hlt)
      generalize xs.getD j default = x at *
      generalize d (j * 3) = v0 at *
      generalize d (j * 3 + 1) = v1 at *
      generalize markN xs j = mk at *
      go_wp2_with (go_at_call 46; refine (markStringS_any _ _ _ _ _ _ (by omega) (by omega) (by omega) (SlR.of_row (HJ2.out _ _))).mono ?_; rintro e w2 ⟨d2, rfl, _, hmk⟩; have HMK := Lib.hid hmk; clear hmk)
      go_roundw
      case rel =>
        refine ⟨j + 1, _, by omega, by go_num, congrArg (Value.int .i64) (by rw [HT.out]; push_cast; omega), HMK.out.row (HST.out _ _) (Ne.symm g3), fun i hi hin => ?_, fun i hi hin => HMK.out.row (HSA.out _ _ i (by omega) hin) (Ne.symm ((HF.out i hin).2.2.2 j (by omega))), (HSG.out _ _).trans (Reg.marked HMK.out fun b hb => ?_)⟩
        · show (if i * 3 + 2 = j * 3 + 1 then _ else if i * 3 + 2 = j * 3 then _ else d (i * 3 + 2)) = _
          rw [if_neg (by omega), if_neg (by omega)]
          exact HD.out i (by omega) hin
        · simp only [Option.some.injEq, Addr.mk.injEq, and_true] at hb
          omega
      case measure => simp [intOf]; omega
    · have hj' : j = n := by omega
      subst hj'
      go_wp2
      go_ret
      exact ⟨rfl, HG.out⟩
end Go.Proofs.Ytjkcmjnejbobeaa
