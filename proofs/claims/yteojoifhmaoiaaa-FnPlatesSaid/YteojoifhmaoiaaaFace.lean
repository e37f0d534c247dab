/-
  Tiles of a valid card: which are joined. Contracts of forwards, isSameStep, hasStrip, hasTile in the program and l06Joined in the reference.
  By an AI agent.
-/
import Derived.Test.YteojoifhmaoiaaaCard
import Derived.Test.YteojoifhmaoiaaaTilG
import Derived.Test.YteojoifhmaoiaaaOwn
namespace Go.Proofs.Yteojoifhmaoiaaa
open Go.ChangeShapes Go.WideShapes Go.ChangeAt Go.RowKit Go.Joins Go.Deep
set_option maxRecDepth 100000
set_option linter.unusedVariables false

theorem byteAt {s : ByteArray} {k : Nat} (h : k < s.size) : s.data.toList.getD k 0 = s[k] := by
  have h' : k < s.data.size := h
  rw [List.getD, Array.getElem?_toList, Array.getElem?_eq_getElem h']
  rfl
def bt (s : ByteArray) (i : Nat) : UInt8 := s.data.toList.getD i 0
theorem bt_at {s : ByteArray} {k : Nat} (h : k < s.size) : bt s k = s[k] := byteAt h
theorem cntExtract (s : ByteArray) (c : UInt8) (k : Nat) : cnt (s.extract 0 k) c k = cnt s c k := by
  unfold cnt
  simp [ByteArray.data_extract, Array.toList_extract, List.take_take]
def rowS (ss : List ByteArray) (k : Nat) : ByteArray := ss.getD k ByteArray.empty
/-- The steps at i of two strips are one and the same. -/
def sameSt (s t : ByteArray) (i : Nat) : Bool := decide (bt s i = bt t i) && decide (cnt s 102 i = cnt t 102 i)
theorem byt_f {x y : UInt8} (h : ¬ x = y) : (((x.toNat : Nat) : Int) == ((y.toNat : Nat) : Int)) = false := by
  have : ¬ ((x.toNat : Nat) : Int) = ((y.toNat : Nat) : Int) := fun e => h (UInt8.toNat_inj.1 (by omega))
  simpa using this
theorem byt_t {x y : UInt8} (h : x = y) : (((x.toNat : Nat) : Int) == ((y.toNat : Nat) : Int)) = true := by subst h; simp
theorem quiet_more {P : Program} {f : FuncId} {args : Array Value} {w : World} {n : Nat} {v : Value}
    (h : Calls P f args (w.drewN n) fun e w' => e = .returned v ∧ ∃ m, w' = (w.drewN n).drewN m) : Calls P f args (w.drewN n) fun e w'' => e = .returned v ∧ ∃ m, w'' = w.drewN m :=
  h.mono fun _ _ ⟨he, m, hm⟩ => ⟨he, n + m, by rw [hm, World.drewN_drewN]⟩
theorem forwardsF (s : ByteArray) (k : Nat) (w : World) (hs : s.size ≤ 1048576) (hk : k ≤ s.size) :
    Calls Try.prog 106 #[.string s, .int .i64 k] w fun e w' => e = .returned (.int .i64 (cnt s 102 k : Nat)) ∧ w = w' := by
  have HX := Lib.hid (cntExtract s 102 k)
  go_enter Try.func106, Try.ntmps106
  go_wp2_with (go_at_call 77; refine (strCount_any _ _ _).mono ?_; rintro e w' ⟨rfl, rfl⟩)
  go_ret
  exact ⟨ret_int (by rw [HX.out]), rfl⟩
theorem isSameStep_any (s t : ByteArray) (i : Nat) (w : World) (hs : s.size ≤ 1048576) (ht : t.size ≤ 1048576) (hi : i < s.size) (hj : i < t.size) :
    Calls Try.prog 79 #[.string s, .string t, .int .i64 i] w fun e w' => e = .returned (.bool (sameSt s t i)) ∧ ∃ m, w' = w.drewN m := by
  have i0 : (0 : Int) ≤ (i : Int) := Int.natCast_nonneg _
  have i1 : (i : Int) < (s.size : Int) := by omega
  have i2 : (i : Int) < (t.size : Int) := by omega
  by_cases h : s[i] = t[i]
  · have b1 := byt_t h
    have h1 := h
    rw [← bt_at hi, ← bt_at hj] at h1
    clear h
    by_cases h2 : cnt s 102 i = cnt t 102 i
    · have HV : Hid (sameSt s t i = true) := Lib.hid (by unfold sameSt; rw [decide_eq_true h1, decide_eq_true h2]; rfl)
      have e1 : (((cnt s 102 i : Nat) : Int) == ((cnt t 102 i : Nat) : Int)) = true := by rw [h2]; simp
      clear h2 h1
      go_enter Try.func79, Try.ntmps79
      go_wp2
      go_quiet ((go_at_call 106; exact quiet_eq (forwardsF _ _ _ (by assumption) (by omega))))
      go_wp2
      go_ret
      exact ⟨ret_bool HV.out.symm, _, rfl⟩
    · have HV : Hid (sameSt s t i = false) := Lib.hid (by unfold sameSt; rw [decide_eq_false h2, Bool.and_false])
      have e1 : (((cnt s 102 i : Nat) : Int) == ((cnt t 102 i : Nat) : Int)) = false := by simpa using (fun e : ((cnt s 102 i : Nat) : Int) = ((cnt t 102 i : Nat) : Int) => h2 (by omega))
      clear h2 h1
      go_enter Try.func79, Try.ntmps79
      go_wp2
      go_quiet ((go_at_call 106; exact quiet_eq (forwardsF _ _ _ (by assumption) (by omega))))
      go_wp2
      go_ret
      exact ⟨ret_bool HV.out.symm, _, rfl⟩
  · have b1 := byt_f h
    have h1 : ¬ bt s i = bt t i := by rw [bt_at hi, bt_at hj]; exact h
    have HV : Hid (sameSt s t i = false) := Lib.hid (by unfold sameSt; rw [decide_eq_false h1, Bool.false_and])
    clear h h1
    go_enter Try.func79, Try.ntmps79
    go_wp2
    go_quiet ((go_at_call 106; exact quiet_eq (forwardsF _ _ _ (by assumption) (by omega))))
    go_wp2
    go_ret
    exact ⟨ret_bool HV.out.symm, _, rfl⟩
theorem isSameStep_is {v : Bool} (s t : ByteArray) (i : Nat) (w : World) (hv : sameSt s t i = v) (hs : s.size ≤ 1048576) (ht : t.size ≤ 1048576) (hi : i < s.size) (hj : i < t.size) :
    Calls Try.prog 79 #[.string s, .string t, .int .i64 i] w fun e w' => e = .returned (.bool v) ∧ ∃ m, w' = w.drewN m := hv ▸ isSameStep_any s t i w hs ht hi hj
/-- A valid card of n strips of N steps. -/
structure Cd (d f : Int) (n N : Nat) (ss : List ByteArray) : Prop where
  len : ss.length = n
  room : (n : Int) + tot ss n ≤ 1048576
  ok : cardOkB d f ss = true
  sum : d + f = N
section
variable {d f : Int} {n N : Nat} {ss : List ByteArray}
theorem Cd.bds (h : Cd d f n N ss) : (1 ≤ d ∧ d ≤ 8 ∧ 1 ≤ f ∧ f ≤ 8) ∧ 1 ≤ n ∧ n ≤ 10 ∧ 2 ≤ N ∧ N ≤ 16 := by
  have h1 := (cardOk_iff.1 h.ok).1
  have h2 := h.len
  have h3 := h.sum
  omega
theorem Cd.size (h : Cd d f n N ss) {k : Nat} (hk : k < n) : (rowS ss k).size = N := by
  have h1 := stripIn_iff.1 (allIn_at (cardOk_iff.1 h.ok).2 (by rw [h.len]; exact hk))
  have hb := h.bds
  have h3 := h.sum
  unfold rowS
  have hs : isStripB (ss.getD k ByteArray.empty) = true := by
    cases e : isStripB (ss.getD k ByteArray.empty)
    · have h2 := h1.1
      rw [downOf_f e] at h2
      omega
    · rfl
  have h4 := (isStrip_iff.1 hs).1
  have h5 := h1.1
  have h6 := h1.2
  unfold downOf at h5
  unfold fwdOf at h6
  rw [hs] at h5 h6
  simp only [if_true] at h5 h6
  omega
end
theorem hasStrip_any (d f : Int) (a : Option Addr) (n c N : Nat) (ss : List ByteArray) (k : Int) (w : World) (hC : Cd d f n N ss) (hR : SlR w a n (sc ss)) :
    Calls Try.prog 105 #[.agg #[.int .i64 d, .int .i64 f, .slice a n c], .int .i64 k] w fun e w' => e = .returned (.bool (decide (0 ≤ k ∧ k < (n : Int)))) ∧ Below w.heap.size w w' := by
  have HB0 := Lib.hid (Below.box w (.cells #[.int .i64 d, .int .i64 f, .slice a n c] 26 (0, 0)))
  have HR := Lib.hid (hR.below HB0.out)
  have HC := Lib.hid hC
  have hn := hC.bds.2.2.1
  clear hR hC
  have s1 : IntKind.i64.wrap ((n : Int) - 1) = (n : Int) - 1 := IntWalk.i64_in _ (by omega)
  go_enter Try.func105, Try.ntmps105
  by_cases hk : 0 ≤ k ∧ k < (n : Int)
  · have HV := Lib.hid (decide_eq_true hk)
    obtain ⟨k0, k1⟩ := hk
    have k2 : k ≤ (n : Int) - 1 := by omega
    go_wp2_with (go_at_call 40; refine (iCardOk_any _ _ _ _ _ _ _ HC.out.len HC.out.room HR.out).mono ?_; rw [HC.out.ok]; rintro e w1 ⟨rfl, hb1⟩; have HB1 := Lib.hid (HB0.out.trans (hb1.mono HB0.out.size)); obtain ⟨d0, d1, d2⟩ := box3 hb1; clear hb1)
    go_wp2_with (go_at_call 49; (first | refine (within_t _ _ _ _ (by omega) (by omega)).mono ?_ | refine (within_f _ _ _ _ (by omega)).mono ?_); rintro e w' ⟨rfl, rfl⟩)
    go_ret
    exact ⟨ret_bool HV.out.symm, HB1.out⟩
  · have HV := Lib.hid (decide_eq_false hk)
    have hk' : k < 0 ∨ (n : Int) - 1 < k := by omega
    clear hk
    go_wp2_with (go_at_call 40; refine (iCardOk_any _ _ _ _ _ _ _ HC.out.len HC.out.room HR.out).mono ?_; rw [HC.out.ok]; rintro e w1 ⟨rfl, hb1⟩; have HB1 := Lib.hid (HB0.out.trans (hb1.mono HB0.out.size)); obtain ⟨d0, d1, d2⟩ := box3 hb1; clear hb1)
    go_wp2_with (go_at_call 49; (first | refine (within_t _ _ _ _ (by omega) (by omega)).mono ?_ | refine (within_f _ _ _ _ (by omega)).mono ?_); rintro e w' ⟨rfl, rfl⟩)
    go_ret
    exact ⟨ret_bool HV.out.symm, HB1.out⟩
theorem hasTile_any (d f : Int) (a : Option Addr) (n c N : Nat) (ss : List ByteArray) (k i : Int) (w : World) (hC : Cd d f n N ss) (hR : SlR w a n (sc ss)) :
    Calls Try.prog 78 #[.agg #[.int .i64 d, .int .i64 f, .slice a n c], .int .i64 k, .int .i64 i] w fun e w' => e = .returned (.bool (decide (0 ≤ k ∧ k < (n : Int)) && decide (0 ≤ i ∧ i < (N : Int)))) ∧ Below w.heap.size w w' := by
  have HB0 := Lib.hid (Below.box w (.cells #[.int .i64 d, .int .i64 f, .slice a n c] 26 (0, 0)))
  have HR := Lib.hid (hR.below HB0.out)
  have HC := Lib.hid hC
  have hb := hC.bds
  have hn := hb.2.2.1
  have hN := hb.2.2.2
  clear hR hb
  have s1 : IntKind.i64.wrap ((N : Int) - 1) = (N : Int) - 1 := IntWalk.i64_in _ (by omega)
  go_enter Try.func78, Try.ntmps78
  by_cases hk : 0 ≤ k ∧ k < (n : Int)
  · have HK := Lib.hid (decide_eq_true hk)
    obtain ⟨k0, k1⟩ := hk
    obtain ⟨q, rfl⟩ : ∃ q : Nat, k = (q : Int) := ⟨k.toNat, by omega⟩
    have hsz := hC.size (k := q) (by omega)
    obtain ⟨g, rfl, hr⟩ := HR.out.row (by omega)
    have c0 := hr.cell (i := q) (by omega)
    unfold sc at c0
    unfold rowS at hsz
    generalize ss.getD q ByteArray.empty = s at c0 hsz
    have HC0 := Lib.hid c0
    clear c0 hr hC
    by_cases hi : 0 ≤ i ∧ i < (N : Int)
    · have HI := Lib.hid (decide_eq_true hi)
      obtain ⟨i0, i1⟩ := hi
      have i2 : i ≤ (N : Int) - 1 := by omega
      go_wp2_with (go_at_call 105; refine (hasStrip_any _ _ _ _ _ N _ _ _ HC.out HR.out).mono ?_; rw [HK.out]; rintro e w1 ⟨rfl, hb1⟩; have HB1 := Lib.hid (HB0.out.trans (hb1.mono HB0.out.size)); have c1 := (hb1.cell (p := ⟨g, q, none⟩) (World.block_lt_of_cell? _ _ HC0.out)).trans HC0.out; obtain ⟨d0, d1, d2⟩ := box3 hb1; clear hb1)
      go_wp2_with (go_at_call 49; (first | refine (within_t _ _ _ _ (by omega) (by omega)).mono ?_ | refine (within_f _ _ _ _ (by omega)).mono ?_); rintro e w' ⟨rfl, rfl⟩)
      go_ret
      exact ⟨ret_bool (by rw [HK.out, HI.out]; rfl), HB1.out⟩
    · have HI := Lib.hid (decide_eq_false hi)
      have hi' : i < 0 ∨ (N : Int) - 1 < i := by omega
      clear hi
      go_wp2_with (go_at_call 105; refine (hasStrip_any _ _ _ _ _ N _ _ _ HC.out HR.out).mono ?_; rw [HK.out]; rintro e w1 ⟨rfl, hb1⟩; have HB1 := Lib.hid (HB0.out.trans (hb1.mono HB0.out.size)); have c1 := (hb1.cell (p := ⟨g, q, none⟩) (World.block_lt_of_cell? _ _ HC0.out)).trans HC0.out; obtain ⟨d0, d1, d2⟩ := box3 hb1; clear hb1)
      go_wp2_with (go_at_call 49; (first | refine (within_t _ _ _ _ (by omega) (by omega)).mono ?_ | refine (within_f _ _ _ _ (by omega)).mono ?_); rintro e w' ⟨rfl, rfl⟩)
      go_ret
      exact ⟨ret_bool (by rw [HK.out, HI.out]; rfl), HB1.out⟩
  · have HK := Lib.hid (decide_eq_false hk)
    clear hC hk
    go_wp2_with (go_at_call 105; refine (hasStrip_any _ _ _ _ _ N _ _ _ HC.out HR.out).mono ?_; rw [HK.out]; rintro e w1 ⟨rfl, hb1⟩; have HB1 := Lib.hid (HB0.out.trans (hb1.mono HB0.out.size)); obtain ⟨d0, d1, d2⟩ := box3 hb1; clear hb1)
    go_wp2_with (go_at_call 49; (first | refine (within_t _ _ _ _ (by omega) (by omega)).mono ?_ | refine (within_f _ _ _ _ (by omega)).mono ?_); rintro e w' ⟨rfl, rfl⟩)
    go_ret
    exact ⟨ret_bool (by rw [HK.out]; rfl), HB1.out⟩
end Go.Proofs.Yteojoifhmaoiaaa
