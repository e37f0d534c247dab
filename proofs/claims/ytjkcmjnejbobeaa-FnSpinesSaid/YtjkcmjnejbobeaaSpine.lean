/-
  A book's spine: the plain words, and contracts of l22Sizes and SpineWidth.
  By an AI agent.
-/
import Derived.Test.YtjkcmjnejbobeaaThickC
import Derived.Test.YtjkcmjnejbobeaaOwn
namespace Go.Proofs.Ytjkcmjnejbobeaa
open Go.ChangeShapes Go.WideShapes Go.ChangeAt Go.RowKit Go.Joins Go.Deep
set_option maxRecDepth 100000
set_option linter.unusedVariables false

/-! ### A book's spine -/
def tc (sh : Int) (x : DCard) : Int := thk x.d x.f x.ss sh
def tcN (xs : List DCard) (sh : Int) (i : Nat) : Int := tc sh (xs.getD i default)
/-- The thicknesses of the first k cards together. -/
def sumT (xs : List DCard) (sh : Int) : Nat → Int
  | 0 => 0
  | k + 1 => sumT xs sh k + tcN xs sh k
def bookB (xs : List DCard) (sh : Int) : Bool := decide (xs.length ≤ 20) && (List.range xs.length).all (fun i => decide (0 ≤ tcN xs sh i))
theorem bookB_iff {xs : List DCard} {sh : Int} : bookB xs sh = true ↔ xs.length ≤ 20 ∧ ∀ i, i < xs.length → 0 ≤ tcN xs sh i := by
  unfold bookB; simp [List.all_eq_true, List.mem_range]
theorem bookB_bad {xs : List DCard} {sh : Int} {k : Nat} (hk : k < xs.length) (h : tcN xs sh k < 0) : bookB xs sh = false := by
  cases e : bookB xs sh
  · rfl
  · have := (bookB_iff.1 e).2 k hk; omega
theorem bookB_many {xs : List DCard} {sh : Int} (h : 20 < xs.length) : bookB xs sh = false := by
  cases e : bookB xs sh
  · rfl
  · have := (bookB_iff.1 e).1; omega
theorem tcN_bd (xs : List DCard) (sh : Int) (i : Nat) : -1 ≤ tcN xs sh i ∧ tcN xs sh i ≤ 18000 := by
  have := thk_bd (xs.getD i default).d (xs.getD i default).f (xs.getD i default).ss sh
  exact ⟨this.1, this.2.1⟩
theorem tcN_sh {xs : List DCard} {sh : Int} {i : Nat} (h : 0 ≤ tcN xs sh i) : 2 * sh ≤ tcN xs sh i ∧ 1 ≤ sh ∧ sh ≤ 1000 := by
  have hb := thk_bd (xs.getD i default).d (xs.getD i default).f (xs.getD i default).ss sh
  cases e : thkB (xs.getD i default).d (xs.getD i default).f (xs.getD i default).ss sh
  · have h2 : tcN xs sh i = -1 := by unfold tcN tc thk; rw [e]; rfl
    omega
  · exact ⟨(hb.2.2 e).2.1, (hb.2.2 e).2.2.1, (hb.2.2 e).2.2.2⟩
theorem sumT_bd {xs : List DCard} {sh : Int} (k : Nat) (h : ∀ i, i < k → 0 ≤ tcN xs sh i) : 0 ≤ sumT xs sh k ∧ sumT xs sh k ≤ 18000 * k := by
  induction k with
  | zero => exact ⟨Int.le_refl _, Int.le_refl _⟩
  | succ k ih =>
    have h1 := ih fun i hi => h i (by omega)
    have h2 := h k (by omega)
    have h3 := tcN_bd xs sh k
    show 0 ≤ sumT xs sh k + _ ∧ sumT xs sh k + _ ≤ _
    push_cast; omega
def spineR (xs : List DCard) (sh : Int) : Int := if bookB xs sh = true then sumT xs sh xs.length else -1
/-- The sizes as a list. -/
def tl (xs : List DCard) (sh : Int) (k : Nat) : List Int := (List.range k).map (tcN xs sh)
theorem tl_succ (xs : List DCard) (sh : Int) (k : Nat) : tl xs sh (k + 1) = tl xs sh k ++ [tcN xs sh k] := by
  unfold tl; rw [List.range_succ, List.map_append]; rfl
theorem tl_len (xs : List DCard) (sh : Int) (k : Nat) : (tl xs sh k).length = k := by unfold tl; simp
theorem tl_at {xs : List DCard} {sh : Int} {k i : Nat} (h : i < k) : (tl xs sh k).getD i 0 = tcN xs sh i := by unfold tl; simp [List.getD, h]

/-- What a card's contracts ask: its strings are n, and all in all they are modest. -/
def DCard.modest (x : DCard) : Prop := x.ss.length = x.n ∧ (x.n : Int) + tot x.ss x.n ≤ 1048576
/-- The cells of the sizes. -/
def zc (xs : List DCard) (sh : Int) (i : Nat) : Value := .int .i64 (tcN xs sh i)
theorem zc_tl (xs : List DCard) (sh : Int) (n : Nat) {i : Nat} (h : i < n) : ic (tl xs sh n) i = zc xs sh i := by unfold ic zc; rw [tl_at h]
def SizesP (xs : List DCard) (sh : Int) (n : Nat) (w : World) (e : Ending) (w' : World) : Prop :=
  ∃ a c, e = .returned (.tuple #[.slice a n c, .bool true]) ∧ (SlR w' a n (zc xs sh) ∧ Fresh w.heap.size a n) ∧ Below w.heap.size w w'
def NoneP (w : World) (e : Ending) (w' : World) : Prop := ∃ a c, e = .returned (.tuple #[.slice a 0 c, .bool false]) ∧ Below w.heap.size w w'
set_option maxHeartbeats 2000000 in
theorem l22Sizes_yes (g o n c : Nat) (xs : List DCard) (sh : Int) (w : World) (hl : xs.length = n) (hm : n ≤ 1048576) (hms : ∀ i, i < n → (xs.getD i default).modest) (hR : LC w g o n xs) (hb : bookB xs sh = true) :
    Calls Try.prog 43 #[.slice (some ⟨g, o, none⟩) n c, .int .i64 sh] w (SizesP xs sh n w) := by
  have HL := Lib.hid hl
  have HR := Lib.hid hR
  have HM := Lib.hid hms
  obtain ⟨h20, hok⟩ := bookB_iff.1 hb
  rw [hl] at h20 hok
  have HOK := Lib.hid hok
  clear hR hms hb hok hl
  go_enter Try.func43, Try.ntmps43
  go_wp2
  have O0 := Own1.empty w 3
  go_loopw [6, 7] (fun v i wr => ∃ (k g1 c1 : Nat), k ≤ n ∧ i = .int .i64 k ∧ v = .slice (some ⟨g1, 0, none⟩) k c1 ∧ Own1 wr w.heap.size 3 g1 k c1 ((tl xs sh k).map (Value.int .i64)) ∧ Below w.heap.size w wr) (fun _ i _ => n - (intOf i).toNat)
  case atStart => exact ⟨0, _, 0, Nat.zero_le _, rfl, rfl, O0, Below.box _ _⟩
  case round =>
    obtain ⟨k, g1, c1, hk, rfl, rfl, h1, hB⟩ := hrel
    have H1 := Lib.hid h1
    have HB := Lib.hid hB
    clear h1 hB
    by_cases hlt : k < n
    · obtain ⟨a1, cp, ⟨c0, c1', c2⟩, s1⟩ := (HR.out.below HB.out).at hlt
      obtain ⟨m1, m2⟩ := HM.out k hlt
      have S1 := Lib.hid s1
      have M1 := Lib.hid m1
      have HX : Hid (thk (xs.getD k default).d (xs.getD k default).f (xs.getD k default).ss sh = tcN xs sh k) := Lib.hid rfl
      have t0 := HOK.out k hlt
      have HT := Lib.hid (tl_succ xs sh k)
      have hl1 := H1.out.lt
      clear s1 m1
      generalize xs.getD k default = x at *
      generalize tcN xs sh k = q at *
      go_wp2_with (first | (go_at_call 15; refine (sThickness_any x.d x.f _ x.n cp x.ss sh _ M1.out m2 S1.out).mono ?_; rw [HX.out]; rintro e w2 ⟨rfl, hb2⟩; have HB2 := Lib.hid (HB.out.trans (hb2.mono HB.out.size)); have H2 := Lib.hid (H1.out.below hb2); clear hb2) | (at_builtin; refine append_one rfl _ _ 27 rfl Try.underlying27 infoInt rfl (by omega) rfl (H2.out.alloc _) (by omega) rfl (new_cell (by simp)) rfl ?_; intro g' c' w3 o3 oo3 l3; have O3 := Lib.hid o3; have OO3 := Lib.hid oo3; clear o3 oo3 l3))
      go_roundw
      case rel =>
        have b2 := HB2.out.alloc (o := .cells #[.int .i64 q] 3 (0, 0)) HB2.out.size
        exact ⟨k + 1, g', c', by omega, by go_num, rfl, by rw [HT.out, List.map_append]; exact O3.out, b2.trans (OO3.out.toBelow hl1.1 b2.size)⟩
      case measure => simp [intOf]; omega
    · have hk' : k = n := by omega
      subst hk'
      go_wp2
      go_ret2
      exact ⟨_, _, rfl, ⟨H1.out.sl.congr (fun i hi => zc_tl xs sh k hi), .of H1.out.lt.1⟩, HB.out⟩
set_option maxHeartbeats 2000000 in
theorem l22Sizes_no (g o n c : Nat) (xs : List DCard) (sh : Int) (w : World) (hl : xs.length = n) (hm : n ≤ 1048576) (hms : ∀ i, i < n → (xs.getD i default).modest) (hR : LC w g o n xs) (hb : bookB xs sh = false) :
    Calls Try.prog 43 #[.slice (some ⟨g, o, none⟩) n c, .int .i64 sh] w (NoneP w) := by
  have HL := Lib.hid hl
  have HR := Lib.hid hR
  have HM := Lib.hid hms
  have HBK := Lib.hid hb
  clear hR hms hb hl
  go_enter Try.func43, Try.ntmps43
  go_wp2
  have O0 := Own1.empty w 3
  go_loopw [6, 7] (fun v i wr => ∃ (k g1 c1 : Nat), k ≤ n ∧ i = .int .i64 k ∧ v = .slice (some ⟨g1, 0, none⟩) k c1 ∧ Own1 wr w.heap.size 3 g1 k c1 ((tl xs sh k).map (Value.int .i64)) ∧ (∀ j, j < k → 0 ≤ tcN xs sh j) ∧ (1 ≤ k → n ≤ 20) ∧ Below w.heap.size w wr) (fun _ i _ => n - (intOf i).toNat)
  case atStart => exact ⟨0, _, 0, Nat.zero_le _, rfl, rfl, O0, fun j h => absurd h (Nat.not_lt_zero j), fun h => absurd h (by omega), Below.box _ _⟩
  case round =>
    obtain ⟨k, g1, c1, hk, rfl, rfl, h1, hok, h20, hB⟩ := hrel
    have H1 := Lib.hid h1
    have HB := Lib.hid hB
    have HO := Lib.hid hok
    have H20 := Lib.hid h20
    clear h1 hB hok h20
    by_cases hlt : k < n
    · obtain ⟨a1, cp, ⟨c0, c1', c2⟩, s1⟩ := (HR.out.below HB.out).at hlt
      obtain ⟨m1, m2⟩ := HM.out k hlt
      have S1 := Lib.hid s1
      have M1 := Lib.hid m1
      have HX : Hid (thk (xs.getD k default).d (xs.getD k default).f (xs.getD k default).ss sh = tcN xs sh k) := Lib.hid rfl
      have HT := Lib.hid (tl_succ xs sh k)
      have HO2 : Hid (0 ≤ tcN xs sh k → ∀ j, j < k + 1 → 0 ≤ tcN xs sh j) := Lib.hid (by
        intro h0 j hj
        by_cases e : j = k
        · rw [e]; exact h0
        · exact HO.out j (by omega))
      have hl1 := H1.out.lt
      clear s1 m1
      generalize xs.getD k default = x at *
      generalize tcN xs sh k = q at *
      by_cases hq : q < 0
      · go_wp2_with (first | (go_at_call 15; refine (sThickness_any x.d x.f _ x.n cp x.ss sh _ M1.out m2 S1.out).mono ?_; rw [HX.out]; rintro e w2 ⟨rfl, hb2⟩; have HB2 := Lib.hid (HB.out.trans (hb2.mono HB.out.size)); clear hb2))
        go_ret2
        exact ⟨_, _, rfl, HB2.out.alloc HB2.out.size _⟩
      · by_cases h20 : n ≤ 20
        · have hq' : 0 ≤ q := by omega
          have h20' : ¬ (20 : Int) < (n : Int) := by omega
          go_wp2_with (first | (go_at_call 15; refine (sThickness_any x.d x.f _ x.n cp x.ss sh _ M1.out m2 S1.out).mono ?_; rw [HX.out]; rintro e w2 ⟨rfl, hb2⟩; have HB2 := Lib.hid (HB.out.trans (hb2.mono HB.out.size)); have H2 := Lib.hid (H1.out.below hb2); clear hb2) | (at_builtin; refine append_one rfl _ _ 27 rfl Try.underlying27 infoInt rfl (by omega) rfl (H2.out.alloc _) (by omega) rfl (new_cell (by simp)) rfl ?_; intro g' c' w3 o3 oo3 l3; have O3 := Lib.hid o3; have OO3 := Lib.hid oo3; clear o3 oo3 l3))
          go_roundw
          case rel =>
            have b2 := HB2.out.alloc (o := .cells #[.int .i64 q] 3 (0, 0)) HB2.out.size
            exact ⟨k + 1, g', c', by omega, by go_num, rfl, by rw [HT.out, List.map_append]; exact O3.out, HO2.out hq', fun _ => h20, b2.trans (OO3.out.toBelow hl1.1 b2.size)⟩
          case measure => simp [intOf]; omega
        · have hq' : 0 ≤ q := by omega
          go_wp2_with (first | (go_at_call 15; refine (sThickness_any x.d x.f _ x.n cp x.ss sh _ M1.out m2 S1.out).mono ?_; rw [HX.out]; rintro e w2 ⟨rfl, hb2⟩; have HB2 := Lib.hid (HB.out.trans (hb2.mono HB.out.size)); clear hb2))
          go_ret2
          exact ⟨_, _, rfl, HB2.out.alloc HB2.out.size _⟩
    · exfalso
      have hk' : k = n := by omega
      subst hk'
      have : bookB xs sh = true := bookB_iff.2 ⟨by rw [HL.out]; by_cases h : 1 ≤ k; exact H20.out h; omega, by rw [HL.out]; exact HO.out⟩
      rw [HBK.out] at this
      cases this

set_option maxHeartbeats 1000000 in
theorem sSpineWidth_any (g o n c : Nat) (xs : List DCard) (sh : Int) (w : World) (hl : xs.length = n) (hm : n ≤ 1048576) (hms : ∀ i, i < n → (xs.getD i default).modest) (hR : LC w g o n xs) :
    Calls Try.prog 26 #[.slice (some ⟨g, o, none⟩) n c, .int .i64 sh] w fun e w' => e = .returned (.int .i64 (spineR xs sh)) ∧ Below w.heap.size w w' := by
  have HL := Lib.hid hl
  have HR := Lib.hid hR
  have HM := Lib.hid hms
  clear hR hms
  cases hb : bookB xs sh
  · have HBK := Lib.hid hb
    have HV : Hid (spineR xs sh = -1) := Lib.hid (by unfold spineR; rw [hb]; rfl)
    clear hb hl
    go_enter Try.func26, Try.ntmps26
    go_wp2_with (go_at_call 43; refine (l22Sizes_no _ _ _ _ xs _ _ HL.out hm HM.out HR.out HBK.out).mono ?_; rintro e w1 ⟨a, c', rfl, hb1⟩)
    go_ret
    exact ⟨ret_int HV.out.symm, hb1⟩
  · have HBK := Lib.hid hb
    have HV : Hid (spineR xs sh = sumT xs sh n) := Lib.hid (by unfold spineR; rw [if_pos hb, hl])
    obtain ⟨h20, hok⟩ := bookB_iff.1 hb
    rw [hl] at h20 hok
    have HOK := Lib.hid hok
    clear hb hl hok
    go_enter Try.func26, Try.ntmps26
    go_wp2_with (go_at_call 43; refine (l22Sizes_yes _ _ _ _ xs _ _ HL.out hm HM.out HR.out HBK.out).mono ?_; rintro e w1 ⟨a, c', rfl, hr, hb1⟩; have HR1 := Lib.hid hr.1; have HB1 := Lib.hid hb1; clear hr hb1)
    go_loop [7, 8] (fun s i => ∃ k : Nat, k ≤ n ∧ i = .int .i64 k ∧ s = .int .i64 (sumT xs sh k)) (fun _ i => n - (intOf i).toNat)
    case atStart => exact ⟨0, Nat.zero_le _, rfl, rfl⟩
    case round =>
      obtain ⟨k, hk, rfl, rfl⟩ := hrel
      have hs := sumT_bd (xs := xs) (sh := sh) k (fun i hi => HOK.out i (by omega))
      obtain ⟨s0, s1⟩ := hs
      by_cases hlt : k < n
      · obtain ⟨g2, rfl, hr⟩ := HR1.out.row (by omega)
        have c0 := hr.cell hlt
        unfold zc at c0
        clear hr
        have t0 := HOK.out k hlt
        have t1 := (tcN_bd xs sh k).2
        have HS : Hid (sumT xs sh (k + 1) = sumT xs sh k + tcN xs sh k) := Lib.hid rfl
        generalize tcN xs sh k = q at *
        go_wp2
        go_round
        case rel => exact ⟨k + 1, by omega, by go_num, by rw [HS.out]⟩
        case measure => simp [intOf]; omega
      · have hk' : k = n := by omega
        subst hk'
        go_wp2
        go_ret
        exact ⟨ret_int HV.out.symm, HB1.out⟩
set_option maxHeartbeats 1000000 in
theorem iSpineWidth_any (g o n c : Nat) (xs : List DCard) (sh : Int) (w : World) (hl : xs.length = n) (hm : n ≤ 1048576) (hms : ∀ i, i < n → (xs.getD i default).modest) (hR : LC w g o n xs) :
    Calls Try.prog 13 #[.slice (some ⟨g, o, none⟩) n c, .int .i64 sh] w fun e w' => e = .returned (.int .i64 (spineR xs sh)) ∧ Below w.heap.size w w' := by
  have HL := Lib.hid hl
  have HR := Lib.hid hR
  have HM := Lib.hid hms
  clear hR hms
  go_enter Try.func13, Try.ntmps13
  go_wp2
  go_loopw [5, 11] (fun s i wr => ∃ k : Nat, k ≤ n ∧ i = .int .i64 k ∧ s = .int .i64 (sumT xs sh k) ∧ (∀ j, j < k → 0 ≤ tcN xs sh j) ∧ Below w.heap.size w wr) (fun _ i _ => n - (intOf i).toNat)
  case atStart => exact ⟨0, Nat.zero_le _, rfl, rfl, fun j h => absurd h (Nat.not_lt_zero j), Below.refl _ _⟩
  case round =>
    obtain ⟨k, hk, rfl, rfl, hok, hB⟩ := hrel
    have HB := Lib.hid hB
    have HO := Lib.hid hok
    have hs := sumT_bd (xs := xs) (sh := sh) k hok
    obtain ⟨s0, s1⟩ := hs
    clear hB hok
    by_cases hlt : k < n
    · obtain ⟨a1, cp, ⟨c0, c1', c2⟩, s1'⟩ := (HR.out.below HB.out).at hlt
      obtain ⟨m1, m2⟩ := HM.out k hlt
      have S1 := Lib.hid (s1'.below (Below.box wr (.cells #[.int .i64 (xs.getD k default).d, .int .i64 (xs.getD k default).f, .slice (some ⟨a1, 0, none⟩) (xs.getD k default).n cp] 34 (0, 0))))
      have M1 := Lib.hid m1
      have HX : Hid (thk (xs.getD k default).d (xs.getD k default).f (xs.getD k default).ss sh = tcN xs sh k) := Lib.hid rfl
      have HS : Hid (sumT xs sh (k + 1) = sumT xs sh k + tcN xs sh k) := Lib.hid rfl
      have t1 := (tcN_bd xs sh k).2
      have HO2 : Hid (0 ≤ tcN xs sh k → ∀ j, j < k + 1 → 0 ≤ tcN xs sh j) := Lib.hid (by
        intro h0 j hj
        by_cases e : j = k
        · rw [e]; exact h0
        · exact HO.out j (by omega))
      by_cases hq : tcN xs sh k < 0
      · have HV : Hid (spineR xs sh = -1) := Lib.hid (by unfold spineR; rw [bookB_bad (by rw [hl]; exact hlt) hq]; rfl)
        clear s1' m1 hl
        generalize xs.getD k default = x at *
        generalize tcN xs sh k = q at *
        go_wp2_with (first | (go_at_call 34; refine (iThickness_any x.d x.f _ x.n cp x.ss sh _ M1.out m2 S1.out).mono ?_; rw [HX.out]; rintro e w2 ⟨rfl, hb2⟩; have HB2 := Lib.hid (HB.out.trans (((Below.box wr _).trans (hb2.mono (by simp))).mono HB.out.size)); clear hb2))
        go_ret
        exact ⟨ret_int HV.out.symm, HB2.out⟩
      · have hq' : 0 ≤ tcN xs sh k := by omega
        clear s1' m1 hl
        generalize xs.getD k default = x at *
        generalize tcN xs sh k = q at *
        go_wp2_with (first | (go_at_call 34; refine (iThickness_any x.d x.f _ x.n cp x.ss sh _ M1.out m2 S1.out).mono ?_; rw [HX.out]; rintro e w2 ⟨rfl, hb2⟩; have HB2 := Lib.hid (HB.out.trans (((Below.box wr _).trans (hb2.mono (by simp))).mono HB.out.size)); clear hb2))
        go_roundw
        case rel => exact ⟨k + 1, by omega, by go_num, by rw [HS.out], HO2.out hq', HB2.out⟩
        case measure => simp [intOf]; omega
    · have hk' : k = n := by omega
      subst hk'
      by_cases h20 : k ≤ 20
      · have HV : Hid (spineR xs sh = sumT xs sh k) := Lib.hid (by unfold spineR; rw [if_pos (bookB_iff.2 ⟨by omega, by rw [hl]; exact HO.out⟩), hl])
        clear hl
        go_wp2
        go_ret
        exact ⟨ret_int HV.out.symm, HB.out⟩
      · have HV : Hid (spineR xs sh = -1) := Lib.hid (by unfold spineR; rw [bookB_many (by omega)]; rfl)
        clear hl
        go_wp2
        go_ret
        exact ⟨ret_int HV.out.symm, HB.out⟩
end Go.Proofs.Ytjkcmjnejbobeaa
