/-
  Stories of the call's own: contracts of toStory, eqStory and markStory of the laws' package.
  By an AI agent.
-/
import Derived.Test.YtjnjlpljakkakaaStory
namespace Go.Proofs.Ytjnjlpljakkakaa
open Go.ChangeShapes Go.WideShapes Go.ChangeAt Go.RowKit Go.Joins Go.Deep
set_option maxRecDepth 100000
set_option linter.unusedVariables false

/-- A slice of slices of the call's own. -/
def RSt (w : World) (a : Option Addr) (n : Nat) (L : Rows) : Prop := ∃ (α : Nat → Option Addr) (C : Nat → Nat), SlR w a n (fun i => .slice (α i) (lenN L i) (C i)) ∧ ∀ i, i < n → lenN L i ≤ C i ∧ SlR w (α i) (lenN L i) (ic (rowN L i))
theorem RSt.below {w w' : World} {a : Option Addr} {n : Nat} {L : Rows} (h : RSt w a n L) (hb : Below w.heap.size w w') : RSt w' a n L := by
  obtain ⟨α, C, h1, h2⟩ := h
  exact ⟨α, C, h1.below hb, fun i hi => ⟨(h2 i hi).1, (h2 i hi).2.below hb⟩⟩
theorem RSt.at {w : World} {a : Option Addr} {n : Nat} {L : Rows} (h : RSt w a n L) {i : Nat} (hi : i < n) : ∃ (g : Nat) (α : Option Addr) (C : Nat), a = some ⟨g, 0, none⟩ ∧ g < w.heap.size ∧ w.cell? ⟨g, i, none⟩ = some (.slice α (lenN L i) C) ∧ lenN L i ≤ C ∧ SlR w α (lenN L i) (ic (rowN L i)) := by
  obtain ⟨α, C, h1, h2⟩ := h
  obtain ⟨g, hg, hr⟩ := h1.row (by omega)
  exact ⟨g, α i, C i, hg, hr.lt, hr.cell hi, (h2 i hi).1, (h2 i hi).2⟩
/-- .. made by toStory: its rows in blocks of their own, all of them from lo up to hi. -/
def crow (A : Nat → Nat) (L : Rows) (i : Nat) : Value := .slice (some ⟨A i, 0, none⟩) (lenN L i) (lenN L i)
def OSt (w : World) (lo hi g n : Nat) (L : Rows) : Prop := (lo ≤ g ∧ g < hi) ∧ ∃ A : Nat → Nat, Row w g n (crow A L) ∧ ∀ i, i < n → (lo ≤ A i ∧ A i < hi ∧ A i ≠ g ∧ ∀ j, j < i → A j ≠ A i) ∧ Row w (A i) (lenN L i) (ic (rowN L i))
section
variable {w w' : World} {lo hi g n : Nat} {L : Rows}
theorem OSt.below (h : OSt w lo hi g n L) (hb : Below w.heap.size w w') : OSt w' lo hi g n L := by
  obtain ⟨h0, A, h1, h2⟩ := h
  exact ⟨h0, A, h1.below hb h1.lt, fun i hi => ⟨(h2 i hi).1, (h2 i hi).2.below hb (h2 i hi).2.lt⟩⟩
theorem OSt.rst (h : OSt w lo hi g n L) : RSt w (some ⟨g, 0, none⟩) n L := by
  obtain ⟨h0, A, h1, h2⟩ := h
  exact ⟨fun i => some ⟨A i, 0, none⟩, lenN L, .of_row h1, fun i hi => ⟨Nat.le_refl _, .of_row (h2 i hi).2⟩⟩
theorem OSt.lt (h : OSt w lo hi g n L) : g < w.heap.size := by obtain ⟨_, A, h1, _⟩ := h; exact h1.lt
end
theorem crow_set {w : World} {g M k x : Nat} {z : Nat → Value} {L : Rows} {A : Nat → Nat} {v : Value} (h : Row w g M (fun q => if q < k then crow A L q else z q)) (h0 : v = crow (fun i => if i = k then x else A i) L k) :
    Row (w.setCell ⟨g, k, none⟩ v) g M (fun q => if q < k + 1 then crow (fun i => if i = k then x else A i) L q else z q) := by
  refine (h.set _ _).congr fun q _ => ?_
  subst h0
  by_cases e : q = k
  · subst e; rw [if_pos rfl, if_pos (by omega)]
  · rw [if_neg e]
    by_cases hk : q < k
    · rw [if_pos hk, if_pos (by omega)]
      unfold crow; simp only [if_neg e]
    · rw [if_neg hk, if_neg (by omega)]
theorem infoRow : (Try.prog.info? 31).map (fun i => (i.zero, i.size, i.bytes)) = some (some (.slice none 0 0), 1, 24) := by kernel_rfl
/-- What toIntSS leaves. -/
def ToP (n : Nat) (L : Rows) (w : World) (g : Nat) (w' : World) : Prop := OSt w' w.heap.size w'.heap.size g n L ∧ Below w.heap.size w w'
set_option maxHeartbeats 2000000 in
theorem toIntSS_any (a : Option Addr) (n c : Nat) (L : Rows) (w : World) (hm : n ≤ 1048576) (hms : ∀ i, i < n → lenN L i ≤ 1048576) (h : AIS w a n L) :
    Calls Try.prog 37 #[.slice a n c] w fun e w' => ∃ g, e = .returned (.slice (some ⟨g, 0, none⟩) n n) ∧ ToP n L w g w' := by
  obtain ⟨i0, hi0, hz0, hz1, hz2⟩ := info_parts infoRow
  have HA := Lib.hid h
  have HM := Lib.hid hms
  clear h hms
  go_enter Try.func37, Try.ntmps37
  go_wp2_with (at_make; refine wpList_make_full _ rfl _ _ 22 rfl w.heap.size 31 i0 _ 1 Try.underlying22 hi0 hz0 hz1 .i64 .i64 n n n rfl rfl rfl rfl (by rw [hz2]; omega) (by unfold maxLen; omega) (Nat.le_refl _) ?_; intro w1 own1 gr1)
  have R0 := (Row.of_owns own1).mono (M := n) (by omega)
  have B0 : Below w.heap.size w w1 := (Below.refl _ _).grown gr1 (Nat.le_refl _) (by simp)
  clear own1 gr1
  generalize (fun i => (madeCells _ _).toList.getD i undef) = z at R0
  have R1 : Row w1 w.heap.size n (fun q => if q < 0 then crow (fun _ => 0) L q else z q) := R0.congr fun q _ => by rw [if_neg (by omega)]
  clear R0
  go_loopw [4] (fun i wr => ∃ (k : Nat) (A : Nat → Nat), k ≤ n ∧ i = .int .i64 k ∧ Row wr w.heap.size n (fun q => if q < k then crow A L q else z q) ∧ (∀ i, i < k → (w.heap.size ≤ A i ∧ A i < wr.heap.size ∧ A i ≠ w.heap.size ∧ ∀ j, j < i → A j ≠ A i) ∧ Row wr (A i) (lenN L i) (ic (rowN L i))) ∧ Below w.heap.size w wr) (fun i _ => n - (intOf i).toNat)
  case atStart => exact ⟨0, _, Nat.zero_le _, rfl, R1, fun i h => absurd h (Nat.not_lt_zero i), B0⟩
  case round =>
    obtain ⟨k, A, hk, rfl, hR, hS, hB⟩ := hrel
    have HR := Lib.hid hR
    have HS := Lib.hid hS
    have HB := Lib.hid hB
    clear hR hS hB
    by_cases hlt : k < n
    · obtain ⟨b, off, rfl, hP⟩ := HA.out.below HB.out (by omega)
      obtain ⟨α, C, c0, hs⟩ := hP k hlt
      have hmk := HM.out k hlt
      have HX := Lib.hid hs
      have Q : Hid (∀ x, crow (fun i => if i = k then x else A i) L k = .slice (some ⟨x, 0, none⟩) (lenN L k) (lenN L k)) := Lib.hid (fun x => by unfold crow; simp)
      have NK : Hid (∀ x : Nat, ∀ W : World, wr.heap.size ≤ x → Row W x (lenN L k) (ic (rowN L k)) → x ≠ w.heap.size → (∀ i, i < k → Row W (A i) (lenN L i) (ic (rowN L i))) →
          ∀ i, i < k + 1 → (w.heap.size ≤ (if i = k then x else A i) ∧ (if i = k then x else A i) < W.heap.size ∧ (if i = k then x else A i) ≠ w.heap.size ∧ ∀ j, j < i → (if j = k then x else A j) ≠ (if i = k then x else A i)) ∧ Row W (if i = k then x else A i) (lenN L i) (ic (rowN L i))) := Lib.hid (by
        intro x W h0 h1 h2 h3 i hi
        have hsz := HB.out.size
        by_cases e : i = k
        · subst e
          rw [if_pos rfl]
          refine ⟨⟨by omega, h1.lt, h2, fun j hj => ?_⟩, h1⟩
          rw [if_neg (by omega)]
          have := (HS.out j hj).1.2.1
          omega
        · have hik : i < k := by omega
          rw [if_neg e]
          obtain ⟨⟨s1, s2, s3, s4⟩, _⟩ := HS.out i hik
          refine ⟨⟨s1, (h3 i hik).lt, s3, fun j hj => ?_⟩, h3 i hik⟩
          rw [if_neg (by omega)]
          exact s4 j hj)
      clear hP hs
      generalize lenN L k = x at *
      have m0 : k < n := hlt
      generalize hzz : (fun q => if q < k then crow A L q else z q) = zq at *
      obtain ⟨d0, D0⟩ : ∃ d, zq k = d := ⟨_, rfl⟩
      subst hzz
      have DD0 := Lib.hid D0
      clear D0
      go_wp2_with (go_at_call 56; refine (toIntS_any _ _ _ (rowN L k) _ hmk HX.out).mono ?_; rintro e w2 ⟨y, rfl, hy, hry, hb2⟩; have HB2 := Lib.hid hb2; have HRY := Lib.hid hry; have hr2 := HR.out.below hb2 HR.out.lt; have HR2 := Lib.hid hr2; have hY := HR.out.lt; have e0 := (hr2.cell m0).trans (congrArg some DD0.out); have f0 := hr2.frozen k; clear hr2 hb2 hry)
      have zz : y ≠ w.heap.size := by omega
      go_roundw
      case rel =>
        refine ⟨k + 1, (fun i => if i = k then y else A i), by omega, by go_num, crow_set HR2.out (Q.out y).symm, ?_, (HB.out.trans (HB2.out.mono HB.out.size)).setCell (Nat.le_refl _) _⟩
        intro i hi
        have h3 := NK.out y w2 hy HRY.out zz (fun i hi => (HS.out i hi).2.below HB2.out (HS.out i hi).2.lt) i hi
        exact ⟨⟨h3.1.1, by simpa using h3.1.2.1, h3.1.2.2⟩, h3.2.set_other (p := ⟨w.heap.size, k, none⟩) h3.1.2.2.1 _⟩
      case measure => simp [intOf]; omega
    · have hk' : k = n := by omega
      subst hk'
      have hl := HR.out.lt
      have HF : Hid (OSt wr w.heap.size wr.heap.size w.heap.size k L) := Lib.hid ⟨⟨Nat.le_refl _, hl⟩, A, HR.out.congr (fun q hq => if_pos hq), HS.out⟩
      clear HR HS
      go_wp2
      go_ret
      exact ⟨_, rfl, HF.out, HB.out⟩

section
variable {w w' : World} {lo hi g n : Nat} {L : Rows}
theorem OSt.set_other (h : OSt w lo hi g n L) {p : Addr} (hp : p.block < lo) (u : Value) : OSt (w.setCell p u) lo hi g n L := by
  obtain ⟨h0, A, h1, h2⟩ := h
  exact ⟨h0, A, h1.set_other (by omega) u, fun i hi => ⟨(h2 i hi).1, (h2 i hi).2.set_other (by have := (h2 i hi).1.1; omega) u⟩⟩
theorem Marked.row {b N M : Nat} {c : Nat → Value} (h : Marked (some ⟨b, 0, none⟩) N w w') (hr : Row w g M c) (hn : g ≠ b) : Row w' g M c := by
  rcases h with ⟨_, h⟩ | ⟨_, k, hk, h⟩
  · exact hr.below h hr.lt
  · simp only [Option.some.injEq, Addr.mk.injEq, and_true] at hk
    exact hr.of_heap (h.block g hr.lt (by omega))
end
theorem toStory_any (a : Option Addr) (n c : Nat) (L : Rows) (w : World) (hm : n ≤ 1048576) (hms : ∀ i, i < n → lenN L i ≤ 1048576) (h : AIS w a n L) :
    Calls Try.prog 13 #[.agg #[.slice a n c]] w fun e w' => ∃ g lo, e = .returned (.agg #[.slice (some ⟨g, 0, none⟩) n n]) ∧ w.heap.size ≤ lo ∧ OSt w' lo w'.heap.size g n L ∧ Below w.heap.size w w' := by
  have HA := Lib.hid h
  have HM := Lib.hid hms
  clear h hms
  go_enter Try.func13, Try.ntmps13
  go_wp2_with (go_at_call 37; refine (toIntSS_any _ _ _ L _ hm HM.out (HA.out.below (by (repeat' (first | exact Below.refl _ _ | refine Below.drew ?_ | refine Below.setCell ?_ ?_ _ | refine Below.alloc ?_ ?_ _)) <;> (first | (simp; done) | (simp; omega))))).mono ?_; rintro e w1 ⟨g, rfl, hr, hb⟩; obtain ⟨hc, hf⟩ := bcell hb; have HR := Lib.hid hr; have HB := Lib.hid hb; clear hr hb)
  refine bodyPost_ret (v := .agg #[.slice (some ⟨g, 0, none⟩) n n]) (by simp [results, Try.results13, go_sem, hc]) rfl ⟨g, w.heap.size + 3, rfl, by omega, ?_, ?_⟩
  · have h1 := HR.out
    simp only [World.size_alloc] at h1
    have h2 := (h1.set_other (p := ⟨w.heap.size + 2, 0, none⟩) (by simp) (.slice (some ⟨g, 0, none⟩) n n)).set_other (p := ⟨w.heap.size + 1, 0, none⟩) (by simp) (.slice (some ⟨g, 0, none⟩) n n)
    simpa using h2
  · have B1 : Below w.heap.size w _ := ((by (repeat' (first | exact Below.refl _ _ | refine Below.drew ?_ | refine Below.setCell ?_ ?_ _ | refine Below.alloc ?_ ?_ _)) <;> (first | (simp; done) | (simp; omega))) : Below w.heap.size w (((w.alloc (.cells #[.slice a n c] 24)).alloc (.cells #[.slice none 0 0] 27)).alloc (.cells #[.slice none 0 0] 27))).trans (HB.out.mono (by simp; omega))
    exact (B1.setCell (by simp; omega) _).setCell (by simp) _
/-- Two rows in memory, and nothing below W's size turned since W. -/
def Two2 (W : World) (ga gb k : Nat) (x y : Value) (w' : World) : Prop := (w'.cell? ⟨ga, k, none⟩ = some x ∧ w'.cell? ⟨gb, k, none⟩ = some y) ∧ Hid (Below W.heap.size W w')
theorem Two2.next {W w1 w2 : World} {ga gb k : Nat} {x y : Value} (h : Two2 W ga gb k x y w1) (hb : Below w1.heap.size w1 w2) : Two2 W ga gb k x y w2 := by
  obtain ⟨⟨c0, d0⟩, hB⟩ := h
  exact ⟨⟨(hb.cell (p := ⟨ga, k, none⟩) (World.block_lt_of_cell? _ _ c0)).trans c0, (hb.cell (p := ⟨gb, k, none⟩) (World.block_lt_of_cell? _ _ d0)).trans d0⟩, Lib.hid (hB.out.trans (hb.mono hB.out.size))⟩
set_option maxHeartbeats 2000000 in
theorem eqIntSS_same (a b : Option Addr) (n ca cb : Nat) (L : Rows) (w : World) (hm : n ≤ 1048576) (hms : ∀ i, i < n → lenN L i ≤ 1048576) (hA : RSt w a n L) (hB : RSt w b n L) :
    Calls Try.prog 40 #[.slice a n ca, .slice b n cb] w fun e w' => e = .returned (.bool true) ∧ Below w.heap.size w w' := by
  have HA := Lib.hid hA
  have HB := Lib.hid hB
  have HM := Lib.hid hms
  clear hA hB hms
  go_enter Try.func40, Try.ntmps40
  go_wp2
  go_loopw [5] (fun i wr => ∃ k : Nat, k ≤ n ∧ i = .int .i64 k ∧ Below w.heap.size w wr) (fun i _ => n - (intOf i).toNat)
  case atStart => exact ⟨0, Nat.zero_le _, rfl, Below.refl _ _⟩
  case round =>
    obtain ⟨k, hk, rfl, hb⟩ := hrel
    have Hb := Lib.hid hb
    clear hb
    by_cases hlt : k < n
    · obtain ⟨ga, α, C, rfl, la, c0, _, s1⟩ := (HA.out.below Hb.out).at hlt
      obtain ⟨gb, β, D, rfl, lb, d0, _, s2⟩ := (HB.out.below Hb.out).at hlt
      have hmk := HM.out k hlt
      have S1 := Lib.hid s1
      have S2 := Lib.hid s2
      clear s1 s2
      generalize lenN L k = x at *
      have i0 : (0 : Int) ≤ (k : Int) := Int.natCast_nonneg _
      have i1 : (k : Int) < (n : Int) := by omega
      have hSd : Two2 wr ga gb k (.slice α x C) (.slice β x D) wr.drew := ⟨⟨c0, d0⟩, Lib.hid (Below.refl _ _).drew⟩
      have HSd := Lib.hid hSd
      clear hSd
      go_wp2
      go_region_held3 (fun w' => (w'.cell? ⟨ga, k, none⟩ = some (.slice α x C) ∧ w'.cell? ⟨gb, k, none⟩ = some (.slice β x D)) ∧ Hid (Below wr.heap.size wr w'))
        (first | exact HSd.out | exact hS2.out | (go_keep; done))
        (first | (go_at_call 20; refine (eqIntS_same _ _ _ _ _ (rowN L k) _ hmk (S1.out.below (show Two2 wr ga gb k (.slice α x C) (.slice β x D) _ from by assumption).2.out) (S2.out.below (show Two2 wr ga gb k (.slice α x C) (.slice β x D) _ from by assumption).2.out)).mono ?_; rintro e w2 ⟨rfl, hb2⟩; have hS2 := Lib.hid (Two2.next (show Two2 wr ga gb k (.slice α x C) (.slice β x D) _ from by assumption) hb2)))
      have HX := Lib.hid (Hb.out.trans (hS2.out.2.out.mono Hb.out.size))
      go_wp2
      go_roundw
      case rel => exact ⟨k + 1, by omega, by go_num, HX.out⟩
      case measure => simp [intOf]; omega
    · go_wp2
      go_ret
      exact ⟨rfl, Hb.out⟩
theorem eqStory_same (a b : Option Addr) (n ca cb : Nat) (L : Rows) (w : World) (hm : n ≤ 1048576) (hms : ∀ i, i < n → lenN L i ≤ 1048576) (hA : RSt w a n L) (hB : RSt w b n L) :
    Calls Try.prog 15 #[.agg #[.slice a n ca], .agg #[.slice b n cb]] w fun e w' => e = .returned (.bool true) ∧ Below w.heap.size w w' := by
  have B0 : Below w.heap.size w ((w.alloc (.cells #[.slice a n ca] 27)).alloc (.cells #[.slice b n cb] 27)) := (by (repeat' (first | exact Below.refl _ _ | refine Below.drew ?_ | refine Below.setCell ?_ ?_ _ | refine Below.alloc ?_ ?_ _)) <;> (first | (simp; done) | (simp; omega)))
  have HB0 := Lib.hid B0
  have HA := Lib.hid (hA.below B0)
  have HB := Lib.hid (hB.below B0)
  have HM := Lib.hid hms
  clear hA hB B0 hms
  go_enter Try.func15, Try.ntmps15
  go_wp2_with (go_at_call 40; refine (eqIntSS_same _ _ _ _ _ L _ hm HM.out HA.out HB.out).mono ?_; rintro e w1 ⟨rfl, hb⟩)
  go_ret
  exact ⟨rfl, HB0.out.trans (hb.mono HB0.out.size)⟩
set_option maxHeartbeats 1000000 in
theorem markIntSS_any (lo hi g n c : Nat) (k0 : Int) (L : Rows) (w : World) (hk0 : 0 ≤ k0) (hk1 : k0 ≤ 1000) (hm : n + sumR L n ≤ 1048576) (hR : OSt w lo hi g n L) :
    Calls Try.prog 45 #[.slice (some ⟨g, 0, none⟩) n c, .int .i64 k0] w fun e w' => e = .returned (.int .i64 (k0 + sumR L n)) ∧ Reg lo hi w w' := by
  obtain ⟨⟨h0, h00⟩, A, hr, hrows⟩ := hR
  have HF : Hid (∀ i, i < n → lo ≤ A i ∧ A i < hi ∧ A i ≠ g ∧ ∀ j, j < i → A j ≠ A i) := Lib.hid (fun i hi => (hrows i hi).1)
  have HR0 := Lib.hid hr
  have HRS0 : Hid (∀ i, 0 ≤ i → i < n → Row w (A i) (lenN L i) (ic (rowN L i))) := Lib.hid (fun i _ hi => (hrows i hi).2)
  clear hr hrows
  go_enter Try.func45, Try.ntmps45
  go_wp2
  go_loopw [1, 5] (fun s i wr => ∃ j : Nat, j ≤ n ∧ i = .int .i64 j ∧ s = .int .i64 (k0 + sumR L j) ∧ Row wr g n (crow A L) ∧ (∀ i, j ≤ i → i < n → Row wr (A i) (lenN L i) (ic (rowN L i))) ∧ Reg lo hi w wr) (fun _ i _ => n - (intOf i).toNat)
  case atStart => exact ⟨0, Nat.zero_le _, rfl, congrArg (Value.int .i64) (by simp [sumR]), HR0.out, HRS0.out, Reg.refl _ _ _⟩
  case round =>
    obtain ⟨j, hj, rfl, rfl, hR, hS, hG⟩ := hrel
    have HR := Lib.hid hR
    have HS := Lib.hid hS
    have HG := Lib.hid hG
    clear hR hS hG
    have hmj := sumR_mono L hj
    by_cases hlt : j < n
    · have c0 := HR.out.cell hlt
      unfold crow at c0
      have hm1 := sumR_mono L (show j + 1 ≤ n from hlt)
      have HT : Hid (sumR L (j + 1) = sumR L j + lenN L j) := Lib.hid rfl
      rw [HT.out] at hm1
      have HJ := Lib.hid (HS.out j (Nat.le_refl _) hlt)
      generalize lenN L j = x at *
      go_wp2_with (go_at_call 22; refine (markIntS_any _ _ _ _ _ _ (by omega) (by omega) (by omega) (SlR.of_row HJ.out)).mono ?_; rintro e w2 ⟨rfl, _, hmk⟩; have HMK := Lib.hid hmk; clear hmk)
      go_roundw
      case rel =>
        obtain ⟨f1, f2, f3, f4⟩ := HF.out j hlt
        refine ⟨j + 1, by omega, by go_num, congrArg (Value.int .i64) (by rw [HT.out]; push_cast; omega), HMK.out.row HR.out (Ne.symm f3), fun i hi hin => HMK.out.row (HS.out i (by omega) hin) (Ne.symm ((HF.out i hin).2.2.2 j (by omega))), HG.out.trans (Reg.marked HMK.out fun b hb => ?_)⟩
        simp only [Option.some.injEq, Addr.mk.injEq, and_true] at hb
        omega
      case measure => simp [intOf]; omega
    · have hj' : j = n := by omega
      subst hj'
      go_wp2
      go_ret
      exact ⟨rfl, HG.out⟩
theorem markStory_any (lo hi g n c : Nat) (k0 : Int) (L : Rows) (w : World) (hk0 : 0 ≤ k0) (hk1 : k0 ≤ 1000) (hm : n + sumR L n ≤ 1048576) (hR : OSt w lo hi g n L) :
    Calls Try.prog 21 #[.agg #[.slice (some ⟨g, 0, none⟩) n c], .int .i64 k0] w fun e w' => e = .returned (.int .i64 (k0 + sumR L n)) ∧ Reg lo hi w w' := by
  have HB0 := Lib.hid (Below.box w (.cells #[.slice (some ⟨g, 0, none⟩) n c] 27 (0, 0)))
  have HR := Lib.hid (hR.below HB0.out)
  clear hR
  go_enter Try.func21, Try.ntmps21
  go_wp2_with (go_at_call 45; refine (markIntSS_any lo hi g n c k0 L _ hk0 hk1 hm HR.out).mono ?_; rintro e w1 ⟨rfl, hb⟩)
  go_ret
  exact ⟨rfl, (Reg.ofBelow HB0.out).trans hb⟩
end Go.Proofs.Ytjnjlpljakkakaa
