/-
  Contracts of PeriodOf in the program and in the reference: both return the least number that divides the sectors and by which the pictures may be turned.
  By an AI agent.
-/
import Derived.Test.YtpafclfonclcdaaDisc
namespace Go.Proofs.Ytpafclfonclcdaa
open Go.ChangeShapes Go.WideShapes Go.ChangeAt Go.RowKit Go.Joins Go.Deep
set_option maxRecDepth 100000
set_option linter.unusedVariables false

/-- The first k pictures are what stands p places on; p divides the n sectors. -/
def perUpto (zs : List Int) (n p : Nat) : Nat → Bool
  | 0 => decide (n % p = 0)
  | k + 1 => perUpto zs n p k && decide (zs.getD k 0 = zs.getD ((k + p) % n) 0)
def isPer (zs : List Int) (n p : Nat) : Bool := perUpto zs n p n
theorem per_self (zs : List Int) (n : Nat) : isPer zs n n = true := by
  unfold isPer
  have : ∀ k, k ≤ n → perUpto zs n n k = true := by
    intro k
    induction k with
    | zero => intro _; simp [perUpto]
    | succ k ih =>
      intro hk
      unfold perUpto
      rw [ih (by omega)]
      have : (k + n) % n = k := by rw [Nat.add_mod_right]; exact Nat.mod_eq_of_lt (by omega)
      rw [this]; simp
  exact this n (Nat.le_refl n)
/-- The least period. -/
def LeastPer (zs : List Int) (n p : Nat) : Prop := 1 ≤ p ∧ p ≤ n ∧ isPer zs n p = true ∧ ∀ q, 1 ≤ q → q < p → isPer zs n q = false
theorem LeastPer.unique {zs : List Int} {n p q : Nat} (h : LeastPer zs n p) (k : LeastPer zs n q) : p = q := by
  obtain ⟨a1, a2, a3, a4⟩ := h
  obtain ⟨b1, b2, b3, b4⟩ := k
  rcases Nat.lt_trichotomy p q with h | h | h
  · have := b4 p a1 h; rw [a3] at this; exact absurd this (by simp)
  · exact h
  · have := a4 q b1 h; rw [b3] at this; exact absurd this (by simp)
def PerP (zs : List Int) (n : Nat) (w : World) (e : Ending) (w' : World) : Prop := ∃ p : Nat, e = .returned (.int .i64 p) ∧ LeastPer zs n p ∧ Below w.heap.size w w'

theorem iPeriodOf_no (d f : Int) (a : Option Addr) (n c : Nat) (zs : List Int) (w : World) (hl : zs.length = n) (hm : n ≤ 1048576) (hR : SlR w a n (ic zs)) (ho : discOkB d f zs = false) :
    Calls Try.prog 8 #[.agg #[.int .i64 d, .int .i64 f, .slice a n c]] w fun e w' => e = .returned (.int .i64 (-1)) ∧ Below w.heap.size w w' := by
  have HB0 := Lib.hid (Below.box w (.cells #[.int .i64 d, .int .i64 f, .slice a n c] 26 (0, 0)))
  have HR := Lib.hid (hR.below HB0.out)
  have HL := Lib.hid hl
  have HO := Lib.hid ho
  clear hR hl ho
  go_enter Try.func8, Try.ntmps8
  go_wp2_with (go_at_call 12; refine (iDiscOk_any _ _ _ _ _ _ _ HL.out hm HR.out).mono ?_; rw [HO.out]; rintro e w1 ⟨rfl, hb⟩)
  go_ret
  exact ⟨rfl, HB0.out.trans (hb.mono (by simp))⟩
theorem sPeriodOf_no (d f : Int) (a : Option Addr) (n c : Nat) (zs : List Int) (w : World) (hl : zs.length = n) (hm : n ≤ 1048576) (hR : SlR w a n (ic zs)) (ho : discOkB d f zs = false) :
    Calls Try.prog 16 #[.agg #[.int .i64 d, .int .i64 f, .slice a n c]] w fun e w' => e = .returned (.int .i64 (-1)) ∧ Below w.heap.size w w' := by
  have HB0 := Lib.hid (Below.box w (.cells #[.int .i64 d, .int .i64 f, .slice a n c] 26 (0, 0)))
  have HR := Lib.hid (hR.below HB0.out)
  have HL := Lib.hid hl
  have HO := Lib.hid ho
  clear hR hl ho
  go_enter Try.func16, Try.ntmps16
  go_wp2_with (go_at_call 30; refine (sDiscOk_any _ _ _ _ _ _ _ HL.out hm HR.out).mono ?_; rw [HO.out]; rintro e w1 ⟨rfl, hb⟩)
  go_ret
  exact ⟨rfl, HB0.out.trans (hb.mono (by simp))⟩
set_option maxHeartbeats 2000000 in
theorem iPeriodOf_yes (d f : Int) (a : Option Addr) (n c : Nat) (zs : List Int) (w : World) (hl : zs.length = n) (hm : n ≤ 1048576) (hR : SlR w a n (ic zs)) (ho : discOkB d f zs = true) :
    Calls Try.prog 8 #[.agg #[.int .i64 d, .int .i64 f, .slice a n c]] w (PerP zs n w) := by
  obtain ⟨⟨q1, q2, q3, q4, q5⟩, _⟩ := discOk_iff.1 ho
  have hdn : d = n := by rw [hl] at q5; exact q5.symm
  subst hdn
  have n2 : 2 ≤ n := by omega
  have n24 : n ≤ 24 := by omega
  have HB0 := Lib.hid (Below.box w (.cells #[.int .i64 n, .int .i64 f, .slice a n c] 26 (0, 0)))
  have HR := Lib.hid (hR.below HB0.out)
  have HL := Lib.hid hl
  have HO := Lib.hid ho
  clear hR hl ho q5
  go_enter Try.func8, Try.ntmps8
  go_wp2_with (go_at_call 12; refine (iDiscOk_any _ _ _ _ _ _ _ HL.out hm HR.out).mono ?_; rw [HO.out]; rintro e w1 ⟨rfl, hb⟩; have HB1 := Lib.hid hb; clear hb)
  go_loopw [3] (fun i wr => ∃ p : Nat, 1 ≤ p ∧ p ≤ n ∧ i = .int .i64 p ∧ (∀ q, 1 ≤ q → q < p → isPer zs n q = false) ∧ Below (w.alloc (.cells #[.int .i64 n, .int .i64 f, .slice a n c] 26 (0, 0))).heap.size (w.alloc (.cells #[.int .i64 n, .int .i64 f, .slice a n c] 26 (0, 0))) wr) (fun i _ => n - (intOf i).toNat)
  case atStart => exact ⟨1, Nat.le_refl _, by omega, rfl, fun q h1 h2 => by omega, HB1.out⟩
  case round =>
    obtain ⟨p, hp1, hp2, rfl, hno, hB⟩ := hrel
    have HN := Lib.hid hno
    have HB := Lib.hid hB
    clear hno hB
    obtain ⟨b0, b1, b2⟩ := box3 HB.out
    have hm0 : Hid (((n : Int).tmod (p : Int) == 0) = perUpto zs n p 0) := Lib.hid (by
      unfold perUpto
      rw [Int.tmod_eq_emod_of_nonneg (by omega)]
      by_cases h : n % p = 0
      · have : (n : Int) % p = 0 := by omega
        simp [h, this]
      · have : ¬ (n : Int) % p = 0 := by omega
        simp [h, this])
    go_wp2_with fail
    obtain ⟨wo, rfl⟩ : ∃ wo : World, wo = wr := ⟨_, rfl⟩
    clear b0 b1 b2
    go_loopw [4, 20] (fun s i wr => ∃ k : Nat, k ≤ n ∧ i = .int .i64 k ∧ s = .bool (perUpto zs n p k) ∧ Below (w.alloc (.cells #[.int .i64 n, .int .i64 f, .slice a n c] 26 (0, 0))).heap.size (w.alloc (.cells #[.int .i64 n, .int .i64 f, .slice a n c] 26 (0, 0))) wr) (fun _ i _ => n - (intOf i).toNat)
    case atStart => exact ⟨0, Nat.zero_le _, rfl, congrArg Value.bool (by rw [← hm0.out, Int.tmod_eq_emod_of_nonneg (by omega)]), HB.out⟩
    case round =>
      obtain ⟨k, hk, rfl, rfl, hB⟩ := hrel
      have HBi := Lib.hid hB
      clear hB
      obtain ⟨b0, b1, b2⟩ := box3 HBi.out
      by_cases hlt : k < n
      · obtain ⟨g, rfl, hr⟩ := (HR.out.below HBi.out).row (by omega)
        have hmlt : (k + p) % n < n := Nat.mod_lt _ (by omega)
        have c0 := hr.cell hlt
        have c1 := hr.cell hmlt
        have HS : Hid (perUpto zs n p (k + 1) = (perUpto zs n p k && decide (zs.getD k 0 = zs.getD ((k + p) % n) 0))) := Lib.hid rfl
        have e2 : ((k : Int) + (p : Int)).tmod (n : Int) = (((k + p) % n : Nat) : Int) := by
          rw [Int.tmod_eq_emod_of_nonneg (by omega)]; simp
        unfold ic at c0 c1
        clear hr
        generalize (k + p) % n = m at hmlt c1 HS e2
        have e1 : IntKind.i64.wrap ((k : Int) + (p : Int)) = (k : Int) + (p : Int) := IntWalk.i64_in _ (by omega)
        have e3 : IntKind.i64.wrap (m : Int) = (m : Int) := IntWalk.i64_in _ (by omega)
        have i0 : (0 : Int) ≤ (m : Int) := Int.natCast_nonneg _
        have i1 : (m : Int) < (n : Int) := by omega
        generalize zs.getD k 0 = x at c0 HS
        generalize zs.getD m 0 = y at c1 HS
        cases hs : perUpto zs n p k
        · have HS2 : Hid (perUpto zs n p (k + 1) = false) := Lib.hid (by rw [HS.out, hs]; rfl)
          clear HS hs
          go_wp2
          go_quiet (fail)
          go_wp2
          go_roundw
          case rel => exact ⟨k + 1, by omega, by go_num, by rw [HS2.out], below_drewN HBi.out _⟩
          case measure => simp [intOf]; omega
        · by_cases hxy : x = y
          · have HS2 : Hid (perUpto zs n p (k + 1) = true) := Lib.hid (by rw [HS.out, hs]; simp [hxy])
            have hxy' : (x == y) = true := by simpa using hxy
            clear HS hs hxy
            go_wp2
            go_quiet (fail)
            go_wp2
            go_roundw
            case rel => exact ⟨k + 1, by omega, by go_num, by rw [HS2.out], below_drewN HBi.out _⟩
            case measure => simp [intOf]; omega
          · have HS2 : Hid (perUpto zs n p (k + 1) = false) := Lib.hid (by rw [HS.out, hs]; simp [hxy])
            have hxy' : (x == y) = false := by simpa using hxy
            clear HS hs hxy
            go_wp2
            go_quiet (fail)
            go_wp2
            go_roundw
            case rel => exact ⟨k + 1, by omega, by go_num, by rw [HS2.out], below_drewN HBi.out _⟩
            case measure => simp [intOf]; omega
      · have hk' : k = n := by omega
        subst hk'
        cases hs : perUpto zs k p k
        · have hpk : p < k := by
            rcases Nat.lt_or_eq_of_le hp2 with h | h
            · exact h
            · exfalso; have := per_self zs k; unfold isPer at this; rw [← h] at this; rw [← h] at hs; rw [this] at hs; exact absurd hs (by simp)
          have X : Hid (∀ q, 1 ≤ q → q < p + 1 → isPer zs k q = false) := Lib.hid (by
            intro q h1 h2
            by_cases e : q = p
            · rw [e]; exact hs
            · exact HN.out q h1 (by omega))
          clear HN hs
          go_wp2
          go_roundw
          case rel => exact ⟨p + 1, by omega, by omega, by go_num, X.out, HBi.out⟩
          case measure => simp [intOf]; omega
        · have X : Hid (isPer zs k p = true) := Lib.hid hs
          clear hs
          go_wp2
          go_ret
          exact ⟨p, rfl, ⟨hp1, hp2, X.out, HN.out⟩, HB0.out.trans (HBi.out.mono (by simp))⟩
set_option maxHeartbeats 2000000 in
theorem sPeriodOf_yes (d f : Int) (a : Option Addr) (n c : Nat) (zs : List Int) (w : World) (hl : zs.length = n) (hm : n ≤ 1048576) (hR : SlR w a n (ic zs)) (ho : discOkB d f zs = true) :
    Calls Try.prog 16 #[.agg #[.int .i64 d, .int .i64 f, .slice a n c]] w (PerP zs n w) := by
  obtain ⟨⟨q1, q2, q3, q4, q5⟩, _⟩ := discOk_iff.1 ho
  have hdn : d = n := by rw [hl] at q5; exact q5.symm
  subst hdn
  have n2 : 2 ≤ n := by omega
  have n24 : n ≤ 24 := by omega
  have HB0 := Lib.hid (Below.box w (.cells #[.int .i64 n, .int .i64 f, .slice a n c] 26 (0, 0)))
  have HR := Lib.hid (hR.below HB0.out)
  have HL := Lib.hid hl
  have HO := Lib.hid ho
  clear hR hl ho q5
  go_enter Try.func16, Try.ntmps16
  go_wp2_with (go_at_call 30; refine (sDiscOk_any _ _ _ _ _ _ _ HL.out hm HR.out).mono ?_; rw [HO.out]; rintro e w1 ⟨rfl, hb⟩; have HB1 := Lib.hid hb; clear hb)
  go_loopw [3] (fun i wr => ∃ p : Nat, 1 ≤ p ∧ p ≤ n ∧ i = .int .i64 p ∧ (∀ q, 1 ≤ q → q < p → isPer zs n q = false) ∧ Below (w.alloc (.cells #[.int .i64 n, .int .i64 f, .slice a n c] 26 (0, 0))).heap.size (w.alloc (.cells #[.int .i64 n, .int .i64 f, .slice a n c] 26 (0, 0))) wr) (fun i _ => n - (intOf i).toNat)
  case atStart => exact ⟨1, Nat.le_refl _, by omega, rfl, fun q h1 h2 => by omega, HB1.out⟩
  case round =>
    obtain ⟨p, hp1, hp2, rfl, hno, hB⟩ := hrel
    have HN := Lib.hid hno
    have HB := Lib.hid hB
    clear hno hB
    obtain ⟨b0, b1, b2⟩ := box3 HB.out
    by_cases hpn : p < n
    · have hm0 : Hid (((n : Int).tmod (p : Int) == 0) = perUpto zs n p 0) := Lib.hid (by
        unfold perUpto
        rw [Int.tmod_eq_emod_of_nonneg (by omega)]
        by_cases h : n % p = 0
        · have : (n : Int) % p = 0 := by omega
          simp [h, this]
        · have : ¬ (n : Int) % p = 0 := by omega
          simp [h, this])
      go_wp2_with fail
      obtain ⟨wo, rfl⟩ : ∃ wo : World, wo = wr := ⟨_, rfl⟩
      clear b0 b1 b2
      go_loopw [4, 5] (fun s i wr => ∃ k : Nat, k ≤ n ∧ i = .int .i64 k ∧ s = .bool (perUpto zs n p k) ∧ Below (w.alloc (.cells #[.int .i64 n, .int .i64 f, .slice a n c] 26 (0, 0))).heap.size (w.alloc (.cells #[.int .i64 n, .int .i64 f, .slice a n c] 26 (0, 0))) wr) (fun _ i _ => n - (intOf i).toNat)
      case atStart => exact ⟨0, Nat.zero_le _, rfl, congrArg Value.bool (by rw [← hm0.out, Int.tmod_eq_emod_of_nonneg (by omega)]), HB.out⟩
      case round =>
        obtain ⟨k, hk, rfl, rfl, hB⟩ := hrel
        have HBi := Lib.hid hB
        clear hB
        obtain ⟨b0, b1, b2⟩ := box3 HBi.out
        by_cases hlt : k < n
        · obtain ⟨g, rfl, hr⟩ := (HR.out.below HBi.out).row (by omega)
          have hmlt : (k + p) % n < n := Nat.mod_lt _ (by omega)
          have c0 := hr.cell hlt
          have c1 := hr.cell hmlt
          have HS : Hid (perUpto zs n p (k + 1) = (perUpto zs n p k && decide (zs.getD k 0 = zs.getD ((k + p) % n) 0))) := Lib.hid rfl
          have e2 : ((k : Int) + (p : Int)).tmod (n : Int) = (((k + p) % n : Nat) : Int) := by
            rw [Int.tmod_eq_emod_of_nonneg (by omega)]; simp
          unfold ic at c0 c1
          clear hr
          generalize (k + p) % n = m at hmlt c1 HS e2
          have e1 : IntKind.i64.wrap ((k : Int) + (p : Int)) = (k : Int) + (p : Int) := IntWalk.i64_in _ (by omega)
          have e3 : IntKind.i64.wrap (m : Int) = (m : Int) := IntWalk.i64_in _ (by omega)
          have i0 : (0 : Int) ≤ (m : Int) := Int.natCast_nonneg _
          have i1 : (m : Int) < (n : Int) := by omega
          generalize zs.getD k 0 = x at c0 HS
          generalize zs.getD m 0 = y at c1 HS
          cases hs : perUpto zs n p k
          · have HS2 : Hid (perUpto zs n p (k + 1) = false) := Lib.hid (by rw [HS.out, hs]; rfl)
            clear HS hs
            go_wp2
            go_quiet (fail)
            go_wp2
            go_roundw
            case rel => exact ⟨k + 1, by omega, by go_num, by rw [HS2.out], below_drewN HBi.out _⟩
            case measure => simp [intOf]; omega
          · by_cases hxy : x = y
            · have HS2 : Hid (perUpto zs n p (k + 1) = true) := Lib.hid (by rw [HS.out, hs]; simp [hxy])
              have hxy' : (x == y) = true := by simpa using hxy
              clear HS hs hxy
              go_wp2
              go_quiet (fail)
              go_wp2
              go_roundw
              case rel => exact ⟨k + 1, by omega, by go_num, by rw [HS2.out], below_drewN HBi.out _⟩
              case measure => simp [intOf]; omega
            · have HS2 : Hid (perUpto zs n p (k + 1) = false) := Lib.hid (by rw [HS.out, hs]; simp [hxy])
              have hxy' : (x == y) = false := by simpa using hxy
              clear HS hs hxy
              go_wp2
              go_quiet (fail)
              go_wp2
              go_roundw
              case rel => exact ⟨k + 1, by omega, by go_num, by rw [HS2.out], below_drewN HBi.out _⟩
              case measure => simp [intOf]; omega
        · have hk' : k = n := by omega
          subst hk'
          cases hs : perUpto zs k p k
          · have hpk : p < k := by
              rcases Nat.lt_or_eq_of_le hp2 with h | h
              · exact h
              · exfalso; have := per_self zs k; unfold isPer at this; rw [← h] at this; rw [← h] at hs; rw [this] at hs; exact absurd hs (by simp)
            have X : Hid (∀ q, 1 ≤ q → q < p + 1 → isPer zs k q = false) := Lib.hid (by
              intro q h1 h2
              by_cases e : q = p
              · rw [e]; exact hs
              · exact HN.out q h1 (by omega))
            clear HN hs
            go_wp2
            go_roundw
            case rel => exact ⟨p + 1, by omega, by omega, by go_num, X.out, HBi.out⟩
            case measure => simp [intOf]; omega
          · have X : Hid (isPer zs k p = true) := Lib.hid hs
            clear hs
            go_wp2
            go_ret
            exact ⟨p, rfl, ⟨hp1, hp2, X.out, HN.out⟩, HB0.out.trans (HBi.out.mono (by simp))⟩
    · have hpn' : p = n := by omega
      subst hpn'
      have X : Hid (isPer zs p p = true) := Lib.hid (per_self zs p)
      go_wp2
      go_ret
      exact ⟨p, rfl, ⟨hp1, Nat.le_refl _, X.out, HN.out⟩, HB0.out.trans (HB.out.mono (by simp))⟩
theorem iPeriodOf_ok (d f : Int) (a : Option Addr) (n c : Nat) (zs : List Int) (w : World) (hl : zs.length = n) (hm : n ≤ 1048576) (hR : SlR w a n (ic zs)) (ho : discOkB d f zs = true) :
    Calls Try.prog 8 #[.agg #[.int .i64 d, .int .i64 f, .slice a n c]] w (PerP zs n w) := iPeriodOf_yes d f a n c zs w hl hm hR ho
theorem sPeriodOf_ok (d f : Int) (a : Option Addr) (n c : Nat) (zs : List Int) (w : World) (hl : zs.length = n) (hm : n ≤ 1048576) (hR : SlR w a n (ic zs)) (ho : discOkB d f zs = true) :
    Calls Try.prog 16 #[.agg #[.int .i64 d, .int .i64 f, .slice a n c]] w (PerP zs n w) := sPeriodOf_yes d f a n c zs w hl hm hR ho
end Go.Proofs.Ytpafclfonclcdaa
