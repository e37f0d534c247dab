/-
  The number of faces: the canonical numbering, and contracts of CountFaces in the program and in the reference.
  By an AI agent.
-/
import Derived.Test.YteojoifhmaoiaaaFacesI
import Derived.Test.YteojoifhmaoiaaaFacesS
namespace Go.Proofs.Yteojoifhmaoiaaa
open Go.ChangeShapes Go.WideShapes Go.ChangeAt Go.RowKit Go.Joins Go.Deep
set_option maxRecDepth 100000
set_option linter.unusedVariables false

theorem RG.top_le {E : Nat → Nat → Prop} {m : Nat} {F : Nat → Nat} (h : RG E m F) : ∀ t, t ≤ m → top F t ≤ t := by
  intro t
  induction t with
  | zero => intro _; exact Nat.le_refl _
  | succ t ih =>
    intro ht
    have h1 := ih (by omega)
    have h2 : F t ≤ top F t := by
      by_cases hn : ∀ u, u < t → ¬ Conn E t u
      · exact Nat.le_of_eq (h.new t (by omega) hn)
      · simp only [Classical.not_forall, Classical.not_not] at hn
        obtain ⟨u, hu, hc⟩ := hn
        rw [h.same t u (by omega) (by omega) hc]
        exact Nat.le_of_lt (lt_top hu)
    show max (top F t) (F t + 1) ≤ t + 1
    omega
/-- The faces of a valid card of n strips of N steps: their numbers, k of them. -/
structure Fc (ss : List ByteArray) (N m : Nat) (F : Nat → Nat) (k : Nat) : Prop where
  eq : ∀ G, RG (TE ss N m) m G → (∀ t, t < m → G t = F t)
  top : ∀ G, RG (TE ss N m) m G → top G m = k
  le : k ≤ m
theorem fc_ex (ss : List ByteArray) (N m : Nat) : ∃ F k, Fc ss N m F k := by
  by_cases h : ∃ F, RG (TE ss N m) m F
  · obtain ⟨F, hF⟩ := h
    exact ⟨F, top F m, fun G hG t ht => hG.eq hF ht, fun G hG => hG.top_eq hF, hF.top_le m (Nat.le_refl _)⟩
  · exact ⟨fun _ => 0, 0, fun G hG => absurd ⟨G, hG⟩ h, fun G hG => absurd ⟨G, hG⟩ h, Nat.zero_le _⟩
/-- What is known of a card's faces: F, and the number k of them. -/
def FcO (d f : Int) (n : Nat) (ss : List ByteArray) (F : Nat → Nat) (k : Nat) : Prop :=
  if cardOkB d f ss = true then Fc ss (d + f).toNat (n * (d + f).toNat) F k else k = 0
theorem fcO_ex (d f : Int) (n : Nat) (ss : List ByteArray) : ∃ F k, FcO d f n ss F k := by
  unfold FcO
  by_cases h : cardOkB d f ss = true
  · obtain ⟨F, k, hk⟩ := fc_ex ss (d + f).toNat (n * (d + f).toNat)
    exact ⟨F, k, by rw [if_pos h]; exact hk⟩
  · exact ⟨fun _ => 0, 0, by rw [if_neg h]⟩
theorem FcO.no {d f : Int} {n : Nat} {ss : List ByteArray} {F : Nat → Nat} {k : Nat} (h : FcO d f n ss F k) (ho : cardOkB d f ss = false) : k = 0 := by
  unfold FcO at h
  rw [if_neg (by rw [ho]; simp)] at h
  exact h
theorem FcO.yes {d f : Int} {n : Nat} {ss : List ByteArray} {F : Nat → Nat} {k : Nat} (h : FcO d f n ss F k) (ho : cardOkB d f ss = true) (hl : ss.length = n) (hm : (n : Int) + tot ss n ≤ 1048576) :
    ∃ N, Cd d f n N ss ∧ Fc ss N (n * N) F k ∧ n * N ≤ 160 := by
  unfold FcO at h
  rw [if_pos ho] at h
  have h1 := (cardOk_iff.1 ho).1
  have hC : Cd d f n (d + f).toNat ss := ⟨hl, hm, ho, by omega⟩
  have hb := hC.bds
  exact ⟨_, hC, h, Nat.mul_le_mul hb.2.2.1 hb.2.2.2.2⟩
theorem iCountFaces_any (d f : Int) (a : Option Addr) (n c : Nat) (ss : List ByteArray) (F : Nat → Nat) (k : Nat) (w : World) (hF : FcO d f n ss F k) (hl : ss.length = n) (hm : (n : Int) + tot ss n ≤ 1048576) (hR : SlR w a n (sc ss)) :
    Calls Try.prog 41 #[.agg #[.int .i64 d, .int .i64 f, .slice a n c]] w fun e w' => e = .returned (.int .i64 (k : Int)) ∧ Below w.heap.size w w' := by
  have HB0 := Lib.hid (Below.box w (.cells #[.int .i64 d, .int .i64 f, .slice a n c] 26 (0, 0)))
  have HR := Lib.hid (hR.below HB0.out)
  have HF := Lib.hid hF
  have HL := Lib.hid hl
  clear hR hF hl
  go_enter Try.func41, Try.ntmps41
  cases ho : cardOkB d f ss
  · have HK : Hid (k = 0) := Lib.hid (HF.out.no ho)
    have HO := Lib.hid ho
    clear ho
    go_wp2_with (go_at_call 40; refine (iCardOk_any _ _ _ _ _ _ _ HL.out hm HR.out).mono ?_; rw [HO.out]; rintro e w1 ⟨rfl, hb1⟩; have HB1 := Lib.hid (HB0.out.trans (hb1.mono HB0.out.size)); clear hb1)
    go_ret
    exact ⟨by rw [HK.out]; rfl, HB1.out⟩
  · obtain ⟨N, hC, hFc, h160⟩ := HF.out.yes ho HL.out hm
    have HC := Lib.hid hC
    have HFc := Lib.hid hFc
    have HO := Lib.hid ho
    clear ho hC hFc
    go_wp2_with (first | (go_at_call 40; refine (iCardOk_any _ _ _ _ _ _ _ HL.out hm HR.out).mono ?_; rw [HO.out]; rintro e w1 ⟨rfl, hb1⟩; have HR1 := Lib.hid (HR.out.below hb1); have HB1 := Lib.hid (HB0.out.trans (hb1.mono HB0.out.size)); obtain ⟨d0, d1, d2⟩ := box3 hb1; clear hb1) | (go_at_call 42; refine (faces_any d f _ n c N ss _ HC.out HR1.out).mono ?_; rintro e w2 ⟨lo, hi, go, cp, gz, cz, A, G, zs, rfl, _, _, hS, _, _, _, hb2⟩; have HB2 := Lib.hid (HB1.out.trans (hb2.mono HB1.out.size)); have HS := Lib.hid hS; clear hb2 hS))
    go_ret
    refine ⟨?_, HB2.out⟩
    have h1 := HFc.out.top _ HS.out.done
    have h2 := HS.out.cnt
    rw [h1] at h2
    rw [h2]
    rfl
theorem sCountFaces_any (d f : Int) (a : Option Addr) (n c : Nat) (ss : List ByteArray) (F : Nat → Nat) (k : Nat) (w : World) (hF : FcO d f n ss F k) (hl : ss.length = n) (hm : (n : Int) + tot ss n ≤ 1048576) (hR : SlR w a n (sc ss)) :
    Calls Try.prog 14 #[.agg #[.int .i64 d, .int .i64 f, .slice a n c]] w fun e w' => e = .returned (.int .i64 (k : Int)) ∧ Below w.heap.size w w' := by
  have HB0 := Lib.hid (Below.box w (.cells #[.int .i64 d, .int .i64 f, .slice a n c] 26 (0, 0)))
  have HR := Lib.hid (hR.below HB0.out)
  have HF := Lib.hid hF
  have HL := Lib.hid hl
  clear hR hF hl
  go_enter Try.func14, Try.ntmps14
  cases ho : cardOkB d f ss
  · have HK : Hid (k = 0) := Lib.hid (HF.out.no ho)
    have HO := Lib.hid ho
    clear ho
    go_wp2_with (go_at_call 47; refine (sCardOk_any _ _ _ _ _ _ _ HL.out hm HR.out).mono ?_; rw [HO.out]; rintro e w1 ⟨rfl, hb1⟩; have HB1 := Lib.hid (HB0.out.trans (hb1.mono HB0.out.size)); clear hb1)
    go_ret
    exact ⟨by rw [HK.out]; rfl, HB1.out⟩
  · obtain ⟨N, hC, hFc, h160⟩ := HF.out.yes ho HL.out hm
    have HC := Lib.hid hC
    have HFc := Lib.hid hFc
    have HO := Lib.hid ho
    clear ho hC hFc
    go_wp2_with (first | (go_at_call 47; refine (sCardOk_any _ _ _ _ _ _ _ HL.out hm HR.out).mono ?_; rw [HO.out]; rintro e w1 ⟨rfl, hb1⟩; have HR1 := Lib.hid (HR.out.below hb1); have HB1 := Lib.hid (HB0.out.trans (hb1.mono HB0.out.size)); obtain ⟨d0, d1, d2⟩ := box3 hb1; clear hb1) | (go_at_call 48; refine (l06Faces_any d f _ n c N ss _ HC.out HR1.out).mono ?_; rintro e w2 ⟨g, G, rfl, _, hrow, hG, hb2⟩; have HB2 := Lib.hid (HB1.out.trans (hb2.mono HB1.out.size)); have HG := Lib.hid hG; have HRO := Lib.hid hrow; clear hb2 hG hrow))
    have HKT : Hid (top G (n * N) = k) := Lib.hid (HFc.out.top _ HG.out)
    have HGL : Hid (∀ t, t < n * N → top G t ≤ t) := Lib.hid (fun t ht => HG.out.top_le t (by omega))
    have HGF : Hid (∀ t, t < n * N → top G (t + 1) ≤ t + 1) := Lib.hid (fun t ht => HG.out.top_le (t + 1) (by omega))
    generalize hM : n * N = M at *
    clear hM HC HFc HF HG
    go_loopw [3, 5] (fun nn x wr => ∃ t : Nat, t ≤ M ∧ x = .int .i64 t ∧ nn = .int .i64 (top G t : Nat) ∧ wr = w2) (fun _ x _ => M - (intOf x).toNat)
    case atStart => exact ⟨0, Nat.zero_le _, rfl, rfl, rfl⟩
    case round =>
      obtain ⟨t, ht, rfl, rfl, rfl⟩ := hrel
      by_cases hlt : t < M
      · have ct := HRO.out.cell hlt
        unfold nc at ct
        have h1 := HGL.out t hlt
        have h2 := HGF.out t hlt
        have h3 : top G (t + 1) = max (top G t) (G t + 1) := rfl
        have h4 : G t ≤ 160 := by omega
        have e1 : IntKind.i64.wrap (((G t : Nat) : Int) + 1) = ((G t : Nat) : Int) + 1 := IntWalk.i64_in _ (by omega)
        have HT : Hid (top G (t + 1) = max (top G t) (G t + 1)) := Lib.hid h3
        clear h1 h2 h3
        rcases Nat.lt_or_ge (top G t) (G t + 1) with h | h
        · have HV : Hid (top G (t + 1) = G t + 1) := Lib.hid (by rw [HT.out]; omega)
          have hm1 : ((top G t : Nat) : Int) < ((G t : Nat) : Int) + 1 := by omega
          go_wp2
          go_roundw
          case rel => exact ⟨t + 1, by omega, by go_num, by rw [HV.out]; go_num, trivial⟩
          case measure => simp [intOf]; omega
        · have HV : Hid (top G (t + 1) = top G t) := Lib.hid (by rw [HT.out]; omega)
          have hm1 : ¬ ((top G t : Nat) : Int) < ((G t : Nat) : Int) + 1 := by omega
          go_wp2
          go_roundw
          case rel => exact ⟨t + 1, by omega, by go_num, by rw [HV.out], trivial⟩
          case measure => simp [intOf]; omega
      · have ht' : t = M := by omega
        subst ht'
        go_wp2
        go_ret
        exact ⟨by rw [HKT.out]; rfl, HB2.out⟩
end Go.Proofs.Yteojoifhmaoiaaa
