/-
  Thickness: contracts of LayersOf in the reference, slices.Max, ThickestOf.
  By an AI agent.
-/
import Derived.Test.YtjkcmjnejbobeaaLay
namespace Go.Proofs.Ytjkcmjnejbobeaa
open Go.ChangeShapes Go.WideShapes Go.ChangeAt Go.RowKit
set_option maxRecDepth 100000
set_option linter.unusedVariables false

set_option maxHeartbeats 1000000 in
theorem sLayersOf_any (s : ByteArray) (w : World) (hb : isStripB s = true) :
    Calls Try.prog 55 #[.string s] w (LayP s w) := by
  have hs := strip_size hb
  have hs1 : s.size ≤ 1048576 := by omega
  have HB := Lib.hid hb
  have HP0 : Hid (((cnt s 100 s.size : Nat) : Int) = pos s 0) := Lib.hid (by rw [pos_zero]; rfl)
  obtain ⟨i0, hi0, hz0, hz1, hz2⟩ := info_parts infoInt
  clear hb
  go_enter Try.func55, Try.ntmps55
  go_wp2_with (first | (go_at_call 71; refine (sIsStrip_any _ _ hs1).mono ?_; rw [HB.out]; rintro e w' ⟨rfl, rfl⟩) | (go_at_call 72; refine (l02Count_any _ 100 100 _ hs1 rfl).mono ?_; rw [HP0.out]; rintro e w' ⟨rfl, rfl⟩) | (at_make; refine wpList_make_full _ rfl _ _ 27 rfl w.heap.size 3 i0 _ 1 Try.underlying27 hi0 hz0 hz1 .i64 .i64 s.size s.size s.size rfl rfl rfl rfl (by rw [hz2]; omega) (by unfold maxLen; omega) (Nat.le_refl _) ?_; intro w1 own1 gr1))
  have R0 := lay_new w s own1
  have B0 : Below w.heap.size w w1 := (Below.refl _ _).grown gr1 (Nat.le_refl _) (by simp)
  clear own1 gr1
  go_loopw [4, 5] (fun a i wr => ∃ k : Nat, k ≤ s.size ∧ i = .int .i64 k ∧ a = .int .i64 (pos s k) ∧ Row wr w.heap.size s.size (lc s k) ∧ Below w.heap.size w wr) (fun _ i _ => s.size - (intOf i).toNat)
  case atStart => exact ⟨0, Nat.zero_le _, rfl, rfl, R0, B0⟩
  case round =>
    obtain ⟨k, hk, rfl, rfl, hR, hBr⟩ := hrel
    have HR := Lib.hid hR
    have HBr := Lib.hid hBr
    clear hR hBr
    by_cases hlt : k < s.size
    · have hp0 := pos_bd HB.out (show k ≤ s.size by omega)
      have hp1 := pos_bd HB.out (show k + 1 ≤ s.size by omega)
      have hlb := lay_bd s k (li s k)
      have HSET : Hid (Row (wr.setCell ⟨w.heap.size, li s k, none⟩ (.int .i64 (lay s k (li s k) + 1))) w.heap.size s.size (lc s (k + 1))) := Lib.hid (lc_set HR.out rfl rfl)
      by_cases a : s[k] = 100
      · have b1 := byte_100t a
        obtain ⟨l1, l2⟩ := li_d HB.out hlt a
        have HPk := Lib.hid (pos_d hlt a)
        have d0 := HR.out.cell l2
        unfold lc at d0
        have f0 := HR.out.frozen (li s k)
        clear a
        generalize li s k = i at *
        generalize lay s k i = q at *
        have hpe : pos s k = (i : Int) + 1 := by omega
        rw [hpe] at HPk ⊢
        clear l1 hpe hp0 hp1
        go_wp2
        go_roundw
        case rel => exact ⟨k + 1, by omega, by go_num, by rw [HPk.out]; go_num, HSET.out, HBr.out.setCell (Nat.le_refl _) _⟩
        case measure => simp [intOf]; omega
      · have a2 : s[k] = 102 := (letters HB.out hlt).resolve_left a
        have b1 := byte_100f a
        obtain ⟨l1, l2⟩ := li_f HB.out hlt a2
        have HPk := Lib.hid (pos_f hlt a2)
        have d0 := HR.out.cell l2
        unfold lc at d0
        have f0 := HR.out.frozen (li s k)
        clear a a2
        generalize li s k = i at *
        generalize lay s k i = q at *
        rw [← l1] at HPk ⊢
        clear l1 hp0 hp1
        go_wp2
        go_roundw
        case rel => exact ⟨k + 1, by omega, by go_num, by rw [HPk.out], HSET.out, HBr.out.setCell (Nat.le_refl _) _⟩
        case measure => simp [intOf]; omega
    · have hk' : k = s.size := by omega
      subst hk'
      go_wp2
      go_ret
      exact ⟨_, rfl, Nat.le_refl _, HR.out, HBr.out⟩

theorem max_any (g n c : Nat) (f : Nat → Int) (w : World) (hn : 1 ≤ n) (hm : n ≤ 1048576) (hf : 0 ≤ f 0) (hR : Row w g n (fun i => .int .i64 (f i))) :
    Calls Try.prog 67 #[.slice (some ⟨g, 0, none⟩) n c] w fun e w' => e = .returned (.int .i64 (mx f n)) ∧ w = w' := by
  have HR := Lib.hid hR
  have H1 := Lib.hid (mx_one hf)
  have c0 := hR.cell (i := 0) (by omega)
  clear hR hf
  rw [← H1.out] at c0
  go_enter Try.func67, Try.ntmps67
  go_wp2
  clear c0
  go_loop [3, 4] (fun m i => ∃ k : Nat, 1 ≤ k ∧ k ≤ n ∧ i = .int .i64 k ∧ m = .int .i64 (mx f k)) (fun _ i => n - (intOf i).toNat)
  case atStart => exact ⟨1, Nat.le_refl _, hn, rfl, rfl⟩
  case round =>
    obtain ⟨k, hk1, hk, rfl, rfl⟩ := hrel
    by_cases hlt : k < n
    · have d0 := HR.out.cell hlt
      by_cases hc : mx f k < f k
      · have HM := Lib.hid (mx_yes hc)
        generalize mx f k = u at *
        generalize f k = v at *
        go_wp2
        go_round
        case rel => exact ⟨k + 1, by omega, by omega, by go_num, by rw [HM.out]⟩
        case measure => simp [intOf]; omega
      · have HM := Lib.hid (mx_no hc)
        have hc' : f k ≤ mx f k := by omega
        generalize mx f k = u at *
        generalize f k = v at *
        go_wp2
        go_round
        case rel => exact ⟨k + 1, by omega, by omega, by go_num, by rw [HM.out]⟩
        case measure => simp [intOf]; omega
    · have hk' : k = n := by omega
      subst hk'
      go_wp2
      go_ret
      exact ⟨rfl, rfl⟩
theorem iThickestOf_any (s : ByteArray) (w : World) (hs1 : s.size ≤ 1048576) :
    Calls Try.prog 50 #[.string s] w fun e w' => e = .returned (.int .i64 (thick s)) ∧ Below w.heap.size w w' := by
  cases hb : isStripB s
  · have HB := Lib.hid hb
    have HV : Hid (thick s = -1) := Lib.hid (by unfold thick; rw [hb]; rfl)
    clear hb
    go_enter Try.func50, Try.ntmps50
    go_wp2_with (go_at_call 66; refine (iIsStrip_any _ _ hs1).mono ?_; rw [HB.out]; rintro e w' ⟨rfl, rfl⟩)
    go_ret
    exact ⟨ret_int HV.out.symm, Below.refl _ _⟩
  · have hz := strip_size hb
    have HB := Lib.hid hb
    have HV : Hid (thick s = mx (lay s s.size) s.size) := Lib.hid (by unfold thick; rw [if_pos hb])
    clear hb
    go_enter Try.func50, Try.ntmps50
    go_wp2_with (first | (go_at_call 66; refine (iIsStrip_any _ _ hs1).mono ?_; rw [HB.out]; rintro e w' ⟨rfl, rfl⟩) | (go_at_call 68; refine (iLayersOf_any _ _ HB.out).mono ?_; rintro e w1 ⟨g, rfl, _, hr, hb1⟩; have HR1 := Lib.hid hr; have HB1 := Lib.hid hb1; clear hr hb1) | (go_at_call 67; refine (max_any g s.size s.size (lay s s.size) _ (by omega) (by omega) (lay_bd s s.size 0).1 HR1.out).mono ?_; rintro e w' ⟨rfl, rfl⟩))
    go_ret
    exact ⟨ret_int HV.out.symm, HB1.out⟩
theorem sLayersOf_no (s : ByteArray) (w : World) (hs1 : s.size ≤ 1048576) (hb : isStripB s = false) :
    Calls Try.prog 55 #[.string s] w fun e w' => e = .returned (.slice (some ⟨w.heap.size, 0, none⟩) 0 0) ∧ Below w.heap.size w w' := by
  have HB := Lib.hid hb
  clear hb
  go_enter Try.func55, Try.ntmps55
  go_wp2_with (go_at_call 71; refine (sIsStrip_any _ _ hs1).mono ?_; rw [HB.out]; rintro e w' ⟨rfl, rfl⟩)
  go_ret
  exact ⟨rfl, Below.box _ _⟩
theorem sThickestOf_any (s : ByteArray) (w : World) (hs1 : s.size ≤ 1048576) :
    Calls Try.prog 40 #[.string s] w fun e w' => e = .returned (.int .i64 (thick s)) ∧ Below w.heap.size w w' := by
  cases hb : isStripB s
  · have HB := Lib.hid hb
    have HV : Hid (thick s = -1) := Lib.hid (by unfold thick; rw [hb]; rfl)
    clear hb
    go_enter Try.func40, Try.ntmps40
    go_wp2_with (go_at_call 55; refine (sLayersOf_no _ _ hs1 HB.out).mono ?_; rintro e w1 ⟨rfl, hb1⟩; have HB1 := Lib.hid hb1; clear hb1)
    refine wp_loop_rounds 1 ?_
    rw [rounds_succ]
    go_wp2
    go_ret
    exact ⟨ret_int HV.out.symm, HB1.out⟩
  · have hz := strip_size hb
    have HB := Lib.hid hb
    have HV : Hid (thick s = mx (lay s s.size) s.size) := Lib.hid (by unfold thick; rw [if_pos hb])
    have hbd := mx_bd (f := lay s s.size) (M := 16) (by omega) (fun i => by have := lay_bd s s.size i; omega)
    have HBD := Lib.hid hbd
    clear hb hbd
    go_enter Try.func40, Try.ntmps40
    go_wp2_with (go_at_call 55; refine (sLayersOf_any _ _ HB.out).mono ?_; rintro e w1 ⟨g, rfl, _, hr, hb1⟩; have HR1 := Lib.hid hr; have HB1 := Lib.hid hb1; clear hr hb1)
    go_loop [3, 5] (fun m i => ∃ k : Nat, k ≤ s.size ∧ i = .int .i64 k ∧ m = .int .i64 (mx (lay s s.size) k)) (fun _ i => s.size - (intOf i).toNat)
    case atStart => exact ⟨0, Nat.zero_le _, rfl, rfl⟩
    case round =>
      obtain ⟨k, hk, rfl, rfl⟩ := hrel
      by_cases hlt : k < s.size
      · have d0 := HR1.out.cell hlt
        unfold lc at d0
        by_cases hc : mx (lay s s.size) k < lay s s.size k
        · have HM := Lib.hid (mx_yes hc)
          generalize mx (lay s s.size) k = u at *
          generalize lay s s.size k = v at *
          go_wp2
          go_round
          case rel => exact ⟨k + 1, by omega, by go_num, by rw [HM.out]⟩
          case measure => simp [intOf]; omega
        · have HM := Lib.hid (mx_no hc)
          have hc' : lay s s.size k ≤ mx (lay s s.size) k := by omega
          generalize mx (lay s s.size) k = u at *
          generalize lay s s.size k = v at *
          go_wp2
          go_round
          case rel => exact ⟨k + 1, by omega, by go_num, by rw [HM.out]⟩
          case measure => simp [intOf]; omega
      · have hk' : k = s.size := by omega
        subst hk'
        go_wp2
        go_ret
        exact ⟨ret_int HV.out.symm, HB1.out⟩
end Go.Proofs.Ytjkcmjnejbobeaa
