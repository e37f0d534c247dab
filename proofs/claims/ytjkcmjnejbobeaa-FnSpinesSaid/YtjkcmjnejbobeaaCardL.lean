/-
  Slices of cards: one that came in, opened; contracts of szCardS, toCardS and eqCardS. Written by a program of mine.
  By an AI agent.
-/
import Derived.Test.YtjkcmjnejbobeaaCard
import Derived.Deep.RegionHeld3
namespace Go.Proofs.Ytjkcmjnejbobeaa
open Go.ChangeShapes Go.WideShapes Go.ChangeAt Go.RowKit Go.Joins Go.Deep
set_option maxRecDepth 100000
set_option linter.unusedVariables false

instance : Inhabited DCard := ⟨⟨0, 0, none, 0, 0, []⟩⟩
/-- The cells of a slice of the call's own, its strings in blocks 'A'. -/
def rCard (xs : List DCard) (A : Nat → Nat) (j : Nat) : Value := #[.int .i64 (xs.getD (j / 3) default).d, .int .i64 (xs.getD (j / 3) default).f, .slice (some ⟨A (j / 3), 0, none⟩) (xs.getD (j / 3) default).n (xs.getD (j / 3) default).n].getD (j % 3) undef
theorem rCard_0 (xs : List DCard) (A : Nat → Nat) (i : Nat) : rCard xs A (i * 3) = .int .i64 (xs.getD i default).d := by
  unfold rCard; rw [show (i * 3) / 3 = i by omega, show (i * 3) % 3 = 0 by omega]; rfl
theorem rCard_1 (xs : List DCard) (A : Nat → Nat) (i : Nat) : rCard xs A (i * 3 + 1) = .int .i64 (xs.getD i default).f := by
  unfold rCard; rw [show (i * 3 + 1) / 3 = i by omega, show (i * 3 + 1) % 3 = 1 by omega]; rfl
theorem rCard_2 (xs : List DCard) (A : Nat → Nat) (i : Nat) : rCard xs A (i * 3 + 2) = .slice (some ⟨A i, 0, none⟩) (xs.getD i default).n (xs.getD i default).n := by
  unfold rCard; rw [show (i * 3 + 2) / 3 = i by omega, show (i * 3 + 2) % 3 = 2 by omega]; rfl
/-- n of them lie at block g, each one's strings in a block of its own. -/
def LCard (w : World) (g n : Nat) (xs : List DCard) : Prop := ∃ A : Nat → Nat, Row w g (n * 3) (rCard xs A) ∧ ∀ i, i < n → Row w (A i) (xs.getD i default).n (sc (xs.getD i default).ss)
section
variable {w w' : World} {g n : Nat} {xs : List DCard}
theorem LCard.lt (h : LCard w g n xs) : g < w.heap.size := by obtain ⟨A, h, _⟩ := h; exact h.lt
theorem LCard.below (h : LCard w g n xs) (hb : Below w.heap.size w w') : LCard w' g n xs := by
  obtain ⟨A, h1, h2⟩ := h
  exact ⟨A, h1.below hb h1.lt, fun i hi => (h2 i hi).below hb (h2 i hi).lt⟩
theorem LCard.at (h : LCard w g n xs) {i : Nat} (hi : i < n) : ∃ a : Nat, (w.cell? ⟨g, i * 3, none⟩ = some (.int .i64 (xs.getD i default).d) ∧ w.cell? ⟨g, i * 3 + 1, none⟩ = some (.int .i64 (xs.getD i default).f) ∧ w.cell? ⟨g, i * 3 + 2, none⟩ = some (.slice (some ⟨a, 0, none⟩) (xs.getD i default).n (xs.getD i default).n)) ∧ SlR w (some ⟨a, 0, none⟩) (xs.getD i default).n (sc (xs.getD i default).ss) := by
  obtain ⟨A, h1, h2⟩ := h
  exact ⟨A i, ⟨rCard_0 xs A i ▸ h1.cell (by omega), rCard_1 xs A i ▸ h1.cell (by omega), rCard_2 xs A i ▸ h1.cell (by omega)⟩, .of_row (h2 i hi)⟩
end
/-- Cards from place o of block g on, as the walks of books read them. -/
def LC (w : World) (g o n : Nat) (xs : List DCard) : Prop := ∀ i, i < n → ∃ a cp : Nat, (w.cell? ⟨g, o + i * 3, none⟩ = some (.int .i64 (xs.getD i default).d) ∧ w.cell? ⟨g, o + i * 3 + 1, none⟩ = some (.int .i64 (xs.getD i default).f) ∧ w.cell? ⟨g, o + i * 3 + 2, none⟩ = some (.slice (some ⟨a, 0, none⟩) (xs.getD i default).n cp)) ∧ SlR w (some ⟨a, 0, none⟩) (xs.getD i default).n (sc (xs.getD i default).ss)
theorem LC.at {w : World} {g o n : Nat} {xs : List DCard} (h : LC w g o n xs) {i : Nat} (hi : i < n) : ∃ a cp : Nat, (w.cell? ⟨g, o + i * 3, none⟩ = some (.int .i64 (xs.getD i default).d) ∧ w.cell? ⟨g, o + i * 3 + 1, none⟩ = some (.int .i64 (xs.getD i default).f) ∧ w.cell? ⟨g, o + i * 3 + 2, none⟩ = some (.slice (some ⟨a, 0, none⟩) (xs.getD i default).n cp)) ∧ SlR w (some ⟨a, 0, none⟩) (xs.getD i default).n (sc (xs.getD i default).ss) := h i hi
theorem LC.below {w w' : World} {g o n : Nat} {xs : List DCard} (h : LC w g o n xs) (hb : Below w.heap.size w w') : LC w' g o n xs := by
  intro i hi
  obtain ⟨a, cp, ⟨c0, c1, c2⟩, s⟩ := h i hi
  have hlt : g < w.heap.size := World.block_lt_of_cell? _ _ c0
  exact ⟨a, cp, ⟨(hb.cell hlt).trans c0, (hb.cell hlt).trans c1, (hb.cell hlt).trans c2⟩, s.below hb⟩
theorem LCard.c {w : World} {g n : Nat} {xs : List DCard} (h : LCard w g n xs) : LC w g 0 n xs := fun i hi => by
  obtain ⟨a, h1, h2⟩ := h.at hi
  exact ⟨a, _, by rw [Nat.zero_add]; exact h1, h2⟩
theorem rCard_keep (xs : List DCard) (A : Nat → Nat) (k x : Nat) {q : Nat} (h : q < k * 3) : rCard xs A q = rCard xs (fun i => if i = k then x else A i) q := by
  unfold rCard
  have : ¬ q / 3 = k := by omega
  simp only [if_neg this]
theorem rCard_set {w : World} {g M k x : Nat} {z : Nat → Value} {xs : List DCard} {A : Nat → Nat} {v0 v1 v2 : Value} (h : Row w g M (fun q => if q < k * 3 then rCard xs A q else z q))
    (h0 : v0 = rCard xs (fun i => if i = k then x else A i) (k * 3)) (h1 : v1 = rCard xs (fun i => if i = k then x else A i) (k * 3 + 1)) (h2 : v2 = rCard xs (fun i => if i = k then x else A i) (k * 3 + 2)) :
    Row (((w.setCell ⟨g, k * 3, none⟩ v0).setCell ⟨g, k * 3 + 1, none⟩ v1).setCell ⟨g, k * 3 + 2, none⟩ v2) g M (fun q => if q < (k + 1) * 3 then rCard xs (fun i => if i = k then x else A i) q else z q) := by
  refine (((h.set _ _).set _ _).set _ _).congr fun q _ => ?_
  subst h0 h1 h2
  by_cases e2 : q = k * 3 + 2
  · subst e2; rw [if_pos rfl, if_pos (by omega)]
  · rw [if_neg e2]
    by_cases e1 : q = k * 3 + 1
    · subst e1; rw [if_pos rfl, if_pos (by omega)]
    · rw [if_neg e1]
      by_cases e0 : q = k * 3
      · subst e0; rw [if_pos rfl, if_pos (by omega)]
      · rw [if_neg e0]
        by_cases hk : q < k * 3
        · rw [if_pos hk, if_pos (by omega)]; exact rCard_keep xs A k x hk
        · rw [if_neg hk, if_neg (by omega)]
/-- A slice of them that came in: its cells, in a world. -/
def ACard (w : World) (a : Option Addr) (n : Nat) (xs : List DCard) : Prop := 0 < n → ∃ b off, a = some ⟨b, off, none⟩ ∧ ∀ i, i < n → (w.cell? ⟨b, off + i * 3, none⟩ = some (.int .i64 (xs.getD i default).d) ∧ w.cell? ⟨b, off + i * 3 + 1, none⟩ = some (.int .i64 (xs.getD i default).f) ∧ w.cell? ⟨b, off + i * 3 + 2, none⟩ = some (.slice (xs.getD i default).a (xs.getD i default).n (xs.getD i default).c)) ∧ SArg w (xs.getD i default).a (xs.getD i default).n (xs.getD i default).ss
theorem ACard.below {w w' : World} {a : Option Addr} {n : Nat} {xs : List DCard} (h : ACard w a n xs) (hb : Below w.heap.size w w') : ACard w' a n xs := by
  intro h0
  obtain ⟨b, off, ha, hc⟩ := h h0
  have hlt : b < w.heap.size := World.block_lt_of_cell? _ _ (hc 0 h0).1.1
  refine ⟨b, off, ha, fun i hi => ?_⟩
  obtain ⟨⟨c0, c1, c2⟩, hs⟩ := hc i hi
  exact ⟨⟨(hb.cell (p := ⟨b, off + i * 3, none⟩) hlt).trans c0, (hb.cell (p := ⟨b, off + i * 3 + 1, none⟩) hlt).trans c1, (hb.cell (p := ⟨b, off + i * 3 + 2, none⟩) hlt).trans c2⟩, hs.below hb⟩
structure DS_Card where
  a : Option Addr
  len : Nat
  cap : Nat
  xs : List DCard
def DS_Card.val (x : DS_Card) : Value := .slice x.a x.len x.cap
/-- Lengths that a machine can hold. -/
def DCard.fits (x : DCard) : Prop := x.ss.length = x.n ∧ x.n ≤ 9223372036854775807 ∧ ∀ k, k < x.n → (x.ss.getD k ByteArray.empty).size ≤ 9223372036854775807
def DS_Card.good (x : DS_Card) (w : World) : Prop := x.xs.length = x.len ∧ x.len ≤ maxLen ∧ (∀ i, i < x.len → (x.xs.getD i default).fits) ∧ ACard w x.a x.len x.xs
theorem list3 {α : Type} {cs : List α} (h : cs.length = 3) : ∃ c0 c1 c2, cs = [c0, c1, c2] := by
  match cs, h with
  | [c0, c1, c2], _ => exact ⟨c0, c1, c2, rfl⟩
section
variable {H : Type} {enc : TypeId × Value → H} {w : World} {r : Reach} {b0 base : Nat} {held : Bool}
theorem trod_Card {n : Nat} {c0 c1 c2 : Value} {y : DataW H × List MemPlace} (hf : DataW.trod enc Try.prog w base (fun _ => true) held n 59 [c0, c1, c2] = some y) :
    ∃ x : DCard, (c0 = .int .i64 x.d ∧ c1 = .int .i64 x.f ∧ c2 = .slice x.a x.n x.c) ∧ x.fits ∧ SArg w x.a x.n x.ss := by
  have hI : Try.prog.cellsOf 3 = 1 := by kernel_rfl
  have hS : Try.prog.cellsOf 32 = 1 := by kernel_rfl
  obtain ⟨z0, z1, z2, n1, _, _, v0, v1, v2⟩ := trod_struct3 Try.underlying59 hf
  dsimp only at v0 v1 v2
  rw [hI] at v0 v1
  rw [hS] at v2
  have k0 : DataW.trod enc Try.prog w base (fun _ => true) held n1 3 [c0] = some z0 := v0
  have k1 : DataW.trod enc Try.prog w base (fun _ => true) held n1 3 [c1] = some z1 := v1
  have k2 : DataW.trod enc Try.prog w base (fun _ => true) held n1 32 [c2] = some z2 := v2
  obtain ⟨i0, a0, _, _⟩ := DataW.trod_int Try.underlying3 k0
  obtain ⟨i1, a1, _, _⟩ := DataW.trod_int Try.underlying3 k1
  simp at a0 a1
  subst a0 a1
  obtain ⟨ad, len, cap, ss, rfl, m1, m2, m3, m4⟩ := open_strs Try.underlying32 k2
  exact ⟨⟨i0, i1, ad, len, cap, ss⟩, ⟨rfl, rfl, rfl⟩, ⟨m1, m2, m3⟩, m4⟩
theorem open_S_Card {v : Value} {d : DataW H} {p : List MemPlace}
    (hv : Value.okWide Try.prog w r b0 37 v) (h : DataW.Trod enc Try.prog w base (fun _ => true) held 37 v d p) :
    ∃ x : DS_Card, v = x.val ∧ x.good w := by
  obtain ⟨a0, len0, cap0, rfl⟩ := okWide_slice Try.underlying37 hv
  obtain ⟨fuel, hf⟩ := h
  have hC : Try.prog.cellsOf 59 = 3 := by kernel_rfl
  rcases open_slice Try.underlying37 hf with ⟨hcs, _⟩ | ⟨x, l, c, m, n, D, Pl, hcs, _, hl, hm, hmm, hx, hi⟩
  · simp [Value.cells] at hcs
    obtain ⟨rfl, rfl, rfl⟩ := hcs
    exact ⟨⟨none, 0, 0, []⟩, rfl, rfl, Nat.zero_le _, fun i h => absurd h (Nat.not_lt_zero i), fun h => absurd h (Nat.lt_irrefl 0)⟩
  · simp [Value.cells] at hcs
    obtain ⟨rfl, rfl, rfl⟩ := hcs
    obtain ⟨b, off, sp⟩ := x
    have hP : ∀ i, ∃ q : DCard, i < len0 → (w.cell? ((⟨b, off, sp⟩ : Addr).add (i * 3)) = some (.int .i64 q.d) ∧ w.cell? ((⟨b, off, sp⟩ : Addr).add (i * 3 + 1)) = some (.int .i64 q.f) ∧ w.cell? ((⟨b, off, sp⟩ : Addr).add (i * 3 + 2)) = some (.slice q.a q.n q.c)) ∧ q.fits ∧ SArg w q.a q.n q.ss := by
      intro i
      by_cases hlt : i < len0
      · obtain ⟨cs', hc, ht⟩ := hi i (by rw [hmm]; simp; omega)
        rw [hC] at hc
        obtain ⟨_, hcl, hat⟩ := World.cells?_some hc
        obtain ⟨c0, c1, c2, rfl⟩ := list3 hcl
        obtain ⟨q, ⟨e0, e1, e2⟩, hq⟩ := trod_Card ht
        subst e0 e1 e2
        refine ⟨q, fun _ => ⟨⟨by have := hat 0 (by omega); rw [Go.Deep.add_add] at this; exact this, by have := hat 1 (by omega); rw [Go.Deep.add_add] at this; exact this, by have := hat 2 (by omega); rw [Go.Deep.add_add] at this; exact this⟩, hq⟩⟩
      · exact ⟨default, fun h => absurd h hlt⟩
    obtain ⟨q, hq⟩ := Classical.axiomOfChoice hP
    have hsp : 0 < len0 → sp = none := by
      intro h0
      have := (hq 0 h0).1.1
      by_cases hs : sp.isSome
      · exfalso
        simp only [World.cell?, Addr.add] at this
        split at this
        · simp [hs] at this
        · simp at this
      · simpa using hs
    refine ⟨⟨some ⟨b, off, sp⟩, len0, cap0, (List.range len0).map q⟩, rfl, by simp, Nat.le_trans hl hm, fun i hlt => ?_, fun h0 => ?_⟩
    · have hlt : i < len0 := hlt
      have := (hq i hlt).2.1
      simpa [List.getD, hlt] using this
    · obtain rfl := hsp h0
      refine ⟨b, off, rfl, fun i hlt => ?_⟩
      have hlt : i < len0 := hlt
      have := hq i hlt
      simp only [add_at] at this
      obtain ⟨h1, _, h3⟩ := this
      have e : ((List.range len0).map q).getD i default = q i := by simp [List.getD, hlt]
      show (_ ∧ _)
      rw [e]
      refine ⟨?_, h3⟩
      simpa [Nat.add_assoc] using h1
end
def bulkCard (x : DCard) : Nat := x.n + tot x.ss x.n
def sumCard (xs : List DCard) : Nat → Nat
  | 0 => 0
  | k + 1 => sumCard xs k + bulkCard (xs.getD k default)
theorem sumCard_mono (xs : List DCard) {k n : Nat} (h : k ≤ n) : sumCard xs k ≤ sumCard xs n := by
  induction n with
  | zero => have : k = 0 := by omega
            subst this; exact Nat.le_refl _
  | succ n ih =>
    by_cases e : k = n + 1
    · subst e; exact Nat.le_refl _
    · have := ih (by omega); show _ ≤ sumCard xs n + _; omega
theorem bulkCard_le (xs : List DCard) {k n : Nat} (h : k < n) : bulkCard (xs.getD k default) ≤ sumCard xs n := by
  have := sumCard_mono xs (show k + 1 ≤ n from h)
  have e : sumCard xs (k + 1) = sumCard xs k + bulkCard (xs.getD k default) := rfl
  omega
set_option maxHeartbeats 1000000 in
theorem szCardS_ok (a : Option Addr) (n c : Nat) (xs : List DCard) (left : Int) (w : World) (hl : left ≤ 1048576) (h0 : (n : Int) + sumCard xs n ≤ left) (h : ACard w a n xs) :
    Calls Try.prog 18 #[.slice a n c, .int .i64 left] w fun e w' => e = .returned (.int .i64 (left - n - sumCard xs n)) ∧ Below w.heap.size w w' := by
  have HA := Lib.hid h
  clear h
  go_enter Try.func18, Try.ntmps18
  go_wp2
  go_loopw [1, 5] (fun s i wr => ∃ k : Nat, k ≤ n ∧ i = .int .i64 k ∧ s = .int .i64 (left - n - sumCard xs k) ∧ Below w.heap.size w wr) (fun _ i _ => n - (intOf i).toNat)
  case atStart => exact ⟨0, Nat.zero_le _, rfl, congrArg (Value.int .i64) (by simp [sumCard]), Below.refl _ _⟩
  case round =>
    obtain ⟨k, hk, rfl, rfl, hB⟩ := hrel
    have HB := Lib.hid hB
    clear hB
    have hmk := sumCard_mono xs hk
    by_cases hlt : k < n
    · obtain ⟨b, off, rfl, hP⟩ := HA.out.below HB.out (by omega)
      obtain ⟨⟨c0, c1, c2⟩, hs⟩ := hP k hlt
      have HS := Lib.hid hs
      have hm1 := sumCard_mono xs (show k + 1 ≤ n from hlt)
      have HT : Hid (sumCard xs (k + 1) = sumCard xs k + bulkCard (xs.getD k default)) := Lib.hid rfl
      rw [HT.out] at hm1
      clear hP hs
      generalize xs.getD k default = x at *
      have hbk : bulkCard x = x.n + tot x.ss x.n := rfl
      have HBK := Lib.hid hbk
      rw [hbk] at hm1
      clear hbk
      go_wp2_with (go_at_call 42; refine (szCard_ok x.d x.f x.a x.n x.c x.ss _ _ (by omega) (by omega) HS.out).mono ?_; rintro e w2 ⟨rfl, hb2⟩; have HB2 := Lib.hid (HB.out.trans (hb2.mono HB.out.size)); clear hb2)
      go_roundw
      case rel => exact ⟨k + 1, by omega, by go_num, congrArg (Value.int .i64) (by rw [HT.out, HBK.out]; push_cast; omega), HB2.out⟩
      case measure => simp [intOf]; omega
    · have hk' : k = n := by omega
      subst hk'
      go_wp2
      go_ret
      exact ⟨rfl, HB.out⟩
set_option maxHeartbeats 1000000 in
theorem szCardS_big (a : Option Addr) (n c : Nat) (xs : List DCard) (left : Int) (w : World) (hl0 : 0 ≤ left) (hl : left ≤ 1048576) (hmx : n ≤ 9223372036854775807) (hfit : ∀ i, i < n → (xs.getD i default).fits) (h0 : left < (n : Int) + sumCard xs n) (h : ACard w a n xs) :
    Calls Try.prog 18 #[.slice a n c, .int .i64 left] w fun e w' => e = .returned (.int .i64 (-1)) ∧ Below w.heap.size w w' := by
  have HA := Lib.hid h
  have HF := Lib.hid hfit
  clear h hfit
  by_cases hlen : left < n
  · go_enter Try.func18, Try.ntmps18
    go_wp2
    go_ret
    exact ⟨rfl, Below.refl _ _⟩
  · go_enter Try.func18, Try.ntmps18
    go_wp2
    go_loopw [1, 5] (fun s i wr => ∃ k : Nat, k ≤ n ∧ i = .int .i64 k ∧ s = .int .i64 (left - n - sumCard xs k) ∧ (n : Int) + sumCard xs k ≤ left ∧ Below w.heap.size w wr) (fun _ i _ => n - (intOf i).toNat)
    case atStart => exact ⟨0, Nat.zero_le _, rfl, congrArg (Value.int .i64) (by simp [sumCard]), by simp [sumCard]; omega, Below.refl _ _⟩
    case round =>
      obtain ⟨k, hk, rfl, rfl, hle, hB⟩ := hrel
      have HB := Lib.hid hB
      clear hB
      by_cases hlt : k < n
      · obtain ⟨b, off, rfl, hP⟩ := HA.out.below HB.out (by omega)
        obtain ⟨⟨c0, c1, c2⟩, hs⟩ := hP k hlt
        have HS := Lib.hid hs
        obtain ⟨_, g1, g2⟩ := HF.out k hlt
        have G2 := Lib.hid g2
        have HT : Hid (sumCard xs (k + 1) = sumCard xs k + bulkCard (xs.getD k default)) := Lib.hid rfl
        clear hP hs g2
        generalize xs.getD k default = x at *
        have HBK : Hid (bulkCard x = x.n + tot x.ss x.n) := Lib.hid rfl
        by_cases hq : (n : Int) + sumCard xs k + (x.n + tot x.ss x.n : Nat) ≤ left
        · go_wp2_with (go_at_call 42; refine (szCard_ok x.d x.f x.a x.n x.c x.ss _ _ (by omega) (by omega) HS.out).mono ?_; rintro e w2 ⟨rfl, hb2⟩; have HB2 := Lib.hid (HB.out.trans (hb2.mono HB.out.size)); clear hb2)
          go_roundw
          case rel => exact ⟨k + 1, by omega, by go_num, congrArg (Value.int .i64) (by rw [HT.out, HBK.out]; push_cast; omega), by rw [HT.out, HBK.out]; push_cast; push_cast at hq; omega, HB2.out⟩
          case measure => simp [intOf]; omega
        · go_wp2_with (go_at_call 42; refine (szCard_big x.d x.f x.a x.n x.c x.ss _ _ (by omega) (by omega) g1 G2.out (by omega) HS.out).mono ?_; rintro e w2 ⟨rfl, hb2⟩; have HB2 := Lib.hid (HB.out.trans (hb2.mono HB.out.size)); clear hb2)
          go_ret
          exact ⟨rfl, HB2.out⟩
      · exfalso
        have hk' : k = n := by omega
        subst hk'
        omega
theorem infoCard : (Try.prog.info? 34).map (fun i => (i.zero, i.size, i.bytes)) = some (some (.agg #[.int .i64 0, .int .i64 0, .slice none 0 0]), 3, 40) := by kernel_rfl
set_option maxHeartbeats 2000000 in
theorem toCardS_any (a : Option Addr) (n c : Nat) (xs : List DCard) (w : World) (hm : n ≤ 1048576) (hms : ∀ i, i < n → (xs.getD i default).n ≤ 1048576) (h : ACard w a n xs) :
    Calls Try.prog 20 #[.slice a n c] w fun e w' => ∃ g, e = .returned (.slice (some ⟨g, 0, none⟩) n n) ∧ w.heap.size ≤ g ∧ LCard w' g n xs ∧ Below w.heap.size w w' := by
  obtain ⟨i0, hi0, hz0, hz1, hz2⟩ := info_parts infoCard
  have HA := Lib.hid h
  have HM := Lib.hid hms
  clear h hms
  go_enter Try.func20, Try.ntmps20
  go_wp2_with (at_make; refine wpList_make_full _ rfl _ _ 24 rfl w.heap.size 34 i0 _ 3 Try.underlying24 hi0 hz0 hz1 .i64 .i64 n n n rfl rfl rfl rfl (by rw [hz2]; omega) (by unfold maxLen; omega) (Nat.le_refl _) ?_; intro w1 own1 gr1)
  have R0 := Row.of_owns own1
  have B0 : Below w.heap.size w w1 := (Below.refl _ _).grown gr1 (Nat.le_refl _) (by simp)
  clear own1 gr1
  generalize (fun i => (madeCells _ _).toList.getD i undef) = z at R0
  have R1 : Row w1 w.heap.size (n * 3) (fun q => if q < 0 * 3 then rCard xs (fun _ => 0) q else z q) := R0.congr fun q _ => by rw [if_neg (by omega)]
  clear R0
  go_loopw [4] (fun i wr => ∃ (k : Nat) (A : Nat → Nat), k ≤ n ∧ i = .int .i64 k ∧ Row wr w.heap.size (n * 3) (fun q => if q < k * 3 then rCard xs A q else z q) ∧ (∀ i, i < k → A i ≠ w.heap.size ∧ Row wr (A i) (xs.getD i default).n (sc (xs.getD i default).ss)) ∧ Below w.heap.size w wr) (fun i _ => n - (intOf i).toNat)
  case atStart => exact ⟨0, _, Nat.zero_le _, rfl, R1, fun i h => absurd h (Nat.not_lt_zero i), B0⟩
  case round =>
    obtain ⟨k, A, hk, rfl, hR, hS, hB⟩ := hrel
    have HR := Lib.hid hR
    have HS := Lib.hid hS
    have HB := Lib.hid hB
    clear hR hS hB
    by_cases hlt : k < n
    · obtain ⟨b, off, rfl, hP⟩ := HA.out.below HB.out (by omega)
      obtain ⟨⟨c0, c1, c2⟩, hs⟩ := hP k hlt
      have hmk := HM.out k hlt
      have HX := Lib.hid hs
      have Q : Hid (∀ x, rCard xs (fun i => if i = k then x else A i) (k * 3) = .int .i64 (xs.getD k default).d ∧ rCard xs (fun i => if i = k then x else A i) (k * 3 + 1) = .int .i64 (xs.getD k default).f ∧ rCard xs (fun i => if i = k then x else A i) (k * 3 + 2) = .slice (some ⟨x, 0, none⟩) (xs.getD k default).n (xs.getD k default).n) := Lib.hid (fun x => ⟨(rCard_0 xs _ k).trans (by first | rfl | rw [if_pos rfl]), (rCard_1 xs _ k).trans (by first | rfl | rw [if_pos rfl]), (rCard_2 xs _ k).trans (by first | rfl | rw [if_pos rfl])⟩)
      have NK : Hid (∀ x : Nat, ∀ W : World, Row W x (xs.getD k default).n (sc (xs.getD k default).ss) → x ≠ w.heap.size → (∀ i, i < k → A i ≠ w.heap.size ∧ Row W (A i) (xs.getD i default).n (sc (xs.getD i default).ss)) → ∀ i, i < k + 1 → (if i = k then x else A i) ≠ w.heap.size ∧ Row W (if i = k then x else A i) (xs.getD i default).n (sc (xs.getD i default).ss)) := Lib.hid (by
        intro x W h1 h2 h3 i hi
        by_cases e : i = k
        · subst e; rw [if_pos rfl]; exact ⟨h2, h1⟩
        · rw [if_neg e]; exact h3 i (by omega))
      clear hP hs
      generalize xs.getD k default = x at *
      have m0 : k * 3 < n * 3 := by omega
      have m1 : k * 3 + 1 < n * 3 := by omega
      have m2 : k * 3 + 2 < n * 3 := by omega
      generalize hzz : (fun q => if q < k * 3 then rCard xs A q else z q) = zq at *
      obtain ⟨d0, D0⟩ : ∃ d, zq (k * 3) = d := ⟨_, rfl⟩
      obtain ⟨d1, D1⟩ : ∃ d, zq (k * 3 + 1) = d := ⟨_, rfl⟩
      obtain ⟨d2, D2⟩ : ∃ d, zq (k * 3 + 2) = d := ⟨_, rfl⟩
      subst hzz
      have DD0 := Lib.hid D0
      clear D0
      have DD1 := Lib.hid D1
      clear D1
      have DD2 := Lib.hid D2
      clear D2
      go_wp2_with (go_at_call 44; refine (toCard_any x.d x.f x.a x.n x.c x.ss _ hmk HX.out).mono ?_; rintro e w2 ⟨y, rfl, hy, hry, hb2⟩; have HB2 := Lib.hid hb2; have HRY := Lib.hid hry; have hr2 := HR.out.below hb2 HR.out.lt; have HR2 := Lib.hid hr2; have hY := HR.out.lt; have e0 := (hr2.cell m0).trans (congrArg some DD0.out); have f0 := hr2.frozen (k * 3); have e1 := (hr2.cell m1).trans (congrArg some DD1.out); have f1 := hr2.frozen (k * 3 + 1); have e2 := (hr2.cell m2).trans (congrArg some DD2.out); have f2 := hr2.frozen (k * 3 + 2); clear hr2 hb2 hry)
      have zz : y ≠ w.heap.size := by omega
      go_roundw
      case rel =>
        refine ⟨k + 1, (fun i => if i = k then y else A i), by omega, by go_num, rCard_set HR2.out ((Q.out y).1).symm ((Q.out y).2.1).symm ((Q.out y).2.2).symm, ?_, (((HB.out.trans (HB2.out.mono HB.out.size)).setCell (Nat.le_refl _) _).setCell (Nat.le_refl _) _).setCell (Nat.le_refl _) _⟩
        intro i hi
        have h3 := NK.out y w2 HRY.out zz (fun i hi => ⟨(HS.out i hi).1, (HS.out i hi).2.below HB2.out (HS.out i hi).2.lt⟩) i hi
        exact ⟨h3.1, (((h3.2).set_other (p := ⟨w.heap.size, k * 3, none⟩) h3.1 _).set_other (p := ⟨w.heap.size, k * 3 + 1, none⟩) h3.1 _).set_other (p := ⟨w.heap.size, k * 3 + 2, none⟩) h3.1 _⟩
      case measure => simp [intOf]; omega
    · have hk' : k = n := by omega
      subst hk'
      have HF : Hid (LCard wr w.heap.size k xs) := Lib.hid ⟨A, HR.out.congr (fun q hq => if_pos hq), fun i hi => (HS.out i hi).2⟩
      clear HR HS
      go_wp2
      go_ret
      exact ⟨_, rfl, Nat.le_refl _, HF.out, HB.out⟩
/-- Two of them in memory, p cells from the heads of their blocks; nothing below W's size turned since W. -/
def TwoCard (W : World) (ga gb p a1 a2 : Nat) (x : DCard) (w' : World) : Prop :=
  (w'.cell? ⟨ga, p, none⟩ = some (.int .i64 x.d) ∧ w'.cell? ⟨ga, p + 1, none⟩ = some (.int .i64 x.f) ∧ w'.cell? ⟨ga, p + 2, none⟩ = some (.slice (some ⟨a1, 0, none⟩) x.n x.n) ∧ w'.cell? ⟨gb, p, none⟩ = some (.int .i64 x.d) ∧ w'.cell? ⟨gb, p + 1, none⟩ = some (.int .i64 x.f) ∧ w'.cell? ⟨gb, p + 2, none⟩ = some (.slice (some ⟨a2, 0, none⟩) x.n x.n)) ∧ Hid (Below W.heap.size W w')
theorem TwoCard.next {W w1 w2 : World} {ga gb p a1 a2 : Nat} {x : DCard} (h : TwoCard W ga gb p a1 a2 x w1) (hb : Below w1.heap.size w1 w2) : TwoCard W ga gb p a1 a2 x w2 := by
  obtain ⟨⟨c0, c1, c2, d0, d1, d2⟩, hB⟩ := h
  have ha : ga < w1.heap.size := World.block_lt_of_cell? _ _ c0
  have hg : gb < w1.heap.size := World.block_lt_of_cell? _ _ d0
  exact ⟨⟨(hb.cell (p := ⟨ga, p, none⟩) ha).trans c0, (hb.cell (p := ⟨ga, p + 1, none⟩) ha).trans c1, (hb.cell (p := ⟨ga, p + 2, none⟩) ha).trans c2, (hb.cell (p := ⟨gb, p, none⟩) hg).trans d0, (hb.cell (p := ⟨gb, p + 1, none⟩) hg).trans d1, (hb.cell (p := ⟨gb, p + 2, none⟩) hg).trans d2⟩, Lib.hid (hB.out.trans (hb.mono hB.out.size))⟩
set_option maxHeartbeats 2000000 in
theorem eqCardS_same (ga gb n ca cb : Nat) (xs : List DCard) (w : World) (hm : n ≤ 1048576) (hms : ∀ i, i < n → (xs.getD i default).n ≤ 1048576) (hA : LCard w ga n xs) (hB : LCard w gb n xs) :
    Calls Try.prog 22 #[.slice (some ⟨ga, 0, none⟩) n ca, .slice (some ⟨gb, 0, none⟩) n cb] w fun e w' => e = .returned (.bool true) ∧ Below w.heap.size w w' := by
  have HA := Lib.hid hA
  have HB := Lib.hid hB
  have HM := Lib.hid hms
  clear hA hB hms
  go_enter Try.func22, Try.ntmps22
  go_wp2
  go_loopw [5] (fun i wr => ∃ k : Nat, k ≤ n ∧ i = .int .i64 k ∧ Below w.heap.size w wr) (fun i _ => n - (intOf i).toNat)
  case atStart => exact ⟨0, Nat.zero_le _, rfl, Below.refl _ _⟩
  case round =>
    obtain ⟨k, hk, rfl, hb⟩ := hrel
    have Hb := Lib.hid hb
    clear hb
    by_cases hlt : k < n
    · obtain ⟨a1, ⟨c0, c1, c2⟩, s1⟩ := (HA.out.below Hb.out).at hlt
      obtain ⟨a2, ⟨d0, d1, d2⟩, s2⟩ := (HB.out.below Hb.out).at hlt
      have hmk := HM.out k hlt
      have S1 := Lib.hid s1
      have S2 := Lib.hid s2
      clear s1 s2
      generalize xs.getD k default = x at *
      have i0 : (0 : Int) ≤ (k : Int) := Int.natCast_nonneg _
      have i1 : (k : Int) < (n : Int) := by omega
      have hSd : TwoCard wr ga gb (k * 3) a1 a2 x wr.drew := ⟨⟨c0, c1, c2, d0, d1, d2⟩, Lib.hid (Below.refl _ _).drew⟩
      have HSd := Lib.hid hSd
      clear hSd
      go_wp2
      go_region_held3 (fun w' => (w'.cell? ⟨ga, k * 3, none⟩ = some (.int .i64 x.d) ∧ w'.cell? ⟨ga, k * 3 + 1, none⟩ = some (.int .i64 x.f) ∧ w'.cell? ⟨ga, k * 3 + 2, none⟩ = some (.slice (some ⟨a1, 0, none⟩) x.n x.n) ∧ w'.cell? ⟨gb, k * 3, none⟩ = some (.int .i64 x.d) ∧ w'.cell? ⟨gb, k * 3 + 1, none⟩ = some (.int .i64 x.f) ∧ w'.cell? ⟨gb, k * 3 + 2, none⟩ = some (.slice (some ⟨a2, 0, none⟩) x.n x.n)) ∧ Hid (Below wr.heap.size wr w'))
        (first | exact HSd.out | exact hS2.out | (go_keep; done))
        (first | (go_at_call 45; refine (eqCard_same x.d x.f _ _ x.n _ _ x.ss _ hmk (S1.out.below (show TwoCard wr ga gb (k * 3) a1 a2 x _ from by assumption).2.out) (S2.out.below (show TwoCard wr ga gb (k * 3) a1 a2 x _ from by assumption).2.out)).mono ?_; rintro e w2 ⟨rfl, hb2⟩; have hS2 := Lib.hid (TwoCard.next (show TwoCard wr ga gb (k * 3) a1 a2 x _ from by assumption) hb2)))
      have HX := Lib.hid (Hb.out.trans (hS2.out.2.out.mono Hb.out.size))
      go_wp2
      go_roundw
      case rel => exact ⟨k + 1, by omega, by go_num, HX.out⟩
      case measure => simp [intOf]; omega
    · go_wp2
      go_ret
      exact ⟨rfl, Hb.out⟩
end Go.Proofs.Ytjkcmjnejbobeaa
