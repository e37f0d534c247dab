/-
  Where two strips of a valid card part: contracts of CutsBetween in the program and in the reference.
  By an AI agent.
-/
import Derived.Test.YtlplfpoggifadaaStep
import Derived.Test.YtlplfpoggifadaaNearS
import Derived.Deep.DeepCutAuto
namespace Go.Proofs.Ytlplfpoggifadaa
open Go.ChangeShapes Go.WideShapes Go.ChangeAt Go.RowKit Go.Joins Go.Deep
set_option maxRecDepth 100000
set_option linter.unusedVariables false

def fl (P : Nat → Bool) (n : Nat) : List Int := ((List.range n).filter P).map Int.ofNat
theorem fl_yes {P : Nat → Bool} {k : Nat} (h : P k = true) : fl P (k + 1) = fl P k ++ [(k : Int)] := by
  unfold fl; rw [List.range_succ, List.filter_append, List.map_append]; simp [h]
theorem fl_no {P : Nat → Bool} {k : Nat} (h : P k = false) : fl P (k + 1) = fl P k := by
  unfold fl; rw [List.range_succ, List.filter_append, List.map_append]; simp [h]
theorem fl_len (P : Nat → Bool) (n : Nat) : (fl P n).length ≤ n := by
  unfold fl; rw [List.length_map]; exact Nat.le_trans (List.length_filter_le _ _) (by simp)
theorem fl_congr {P Q : Nat → Bool} {n : Nat} (h : ∀ k, k < n → P k = Q k) : fl P n = fl Q n := by
  unfold fl
  congr 1
  exact List.filter_congr fun k hk => h k (List.mem_range.1 hk)

/-- The steps before step n at which two strips part. -/
def dfL (s t : ByteArray) (n : Nat) : List Int := fl (fun k => !sameSt s t k) n
theorem dfL_yes {s t : ByteArray} {k : Nat} (h : sameSt s t k = false) : dfL s t (k + 1) = dfL s t k ++ [(k : Int)] := fl_yes (P := fun k => !sameSt s t k) (by simp [h])
theorem dfL_no {s t : ByteArray} {k : Nat} (h : sameSt s t k = true) : dfL s t (k + 1) = dfL s t k := fl_no (P := fun k => !sameSt s t k) (by simp [h])
theorem dfL_len (s t : ByteArray) (n : Nat) : (dfL s t n).length ≤ n := fl_len _ n
/-- Two strips of one frame, of at most 16 steps. -/
structure Two (s t : ByteArray) (N : Nat) : Prop where
  zs : s.size = N
  zt : t.size = N
  n16 : N ≤ 16
  same : sameB s t = true
theorem Cd.two {d f : Int} {n N : Nat} {ss : List ByteArray} (h : Cd d f n N ss) {k : Nat} (hk : k + 1 < n) : Two (rowS ss k) (rowS ss (k + 1)) N := by
  have strip : ∀ j, j < n → isStripB (rowS ss j) = true ∧ downOf (rowS ss j) = d := fun j hj => by
    have h1 := stripIn_iff.1 (allIn_at (cardOk_iff.1 h.ok).2 (by rw [h.len]; exact hj))
    have hb := h.bds
    refine ⟨?_, h1.1⟩
    cases e : isStripB (rowS ss j)
    · have h2 := h1.1
      have h3 : downOf (rowS ss j) = 0 := downOf_f e
      unfold rowS at h3
      rw [h3] at h2
      omega
    · rfl
  obtain ⟨a1, a2⟩ := strip k (by omega)
  obtain ⟨b1, b2⟩ := strip (k + 1) hk
  have z1 := h.size (show k < n by omega)
  have z2 := h.size hk
  refine ⟨z1, z2, h.bds.2.2.2.2, same_iff.2 ⟨a1, b1, by omega, ?_⟩⟩
  rw [downOf_d a1] at a2
  rw [downOf_d b1] at b2
  omega
set_option maxHeartbeats 1000000 in
theorem iCutsBetween_any (s t : ByteArray) (N : Nat) (w : World) (h : Two s t N) :
    Calls Try.prog 68 #[.string s, .string t] w (GetL (dfL s t N) w) := by
  obtain ⟨hs, ht, hn, hS⟩ := h
  subst hs
  have HS := Lib.hid hS
  have t1 : t.size ≤ 1048576 := by omega
  have t2 : s.size ≤ t.size := by omega
  clear hS ht
  go_enter Try.func68, Try.ntmps68
  go_wp2_with (go_at_call 80; refine (iSameFrame_any s t _ (by omega) (by omega)).mono ?_; rw [HS.out]; rintro e w1 ⟨rfl, rfl⟩)
  have O0 := Lib.hid (Own1.empty w 3)
  have BX := Lib.hid (Below.box w (.cells #[] 3 (0, 0)))
  go_loopw [5, 14] (fun v i wr => ∃ (k g1 c1 : Nat), k ≤ s.size ∧ i = .int .i64 k ∧ v = .slice (some ⟨g1, 0, none⟩) (dfL s t k).length c1 ∧ Own1 wr w.heap.size 3 g1 (dfL s t k).length c1 ((dfL s t k).map (Value.int .i64)) ∧ Below w.heap.size w wr) (fun _ i _ => s.size - (intOf i).toNat)
  case atStart => exact ⟨0, _, 0, Nat.zero_le _, rfl, rfl, O0.out, BX.out⟩
  case round =>
    clear O0 BX
    obtain ⟨k, g1, c1, hk, rfl, rfl, h1, hB⟩ := hrel
    have H1 := Lib.hid h1
    have HB := Lib.hid hB
    have hl := dfL_len s t k
    clear h1 hB
    by_cases hlt : k < s.size
    · have i0 : (0 : Int) ≤ (k : Int) := Int.natCast_nonneg _
      cases hb : sameSt s t k
      · have HT := Lib.hid (dfL_yes hb)
        have HSB := Lib.hid hb
        clear hb
        have HAL : Hid (∀ m, Own1 (wr.drewN m) w.heap.size 3 g1 (dfL s t k).length c1 ((dfL s t k).map (Value.int .i64)) ∧ Below w.heap.size w (wr.drewN m)) := Lib.hid (fun m => ⟨H1.out.heap rfl, below_drewN HB.out m⟩)
        clear H1 HB
        go_wp2_with (first | (go_at_call 81; refine (isSameStep_is s t k _ HSB.out (by omega) (by omega) hlt (by omega)).mono ?_; rintro e w2 ⟨rfl, m, rfl⟩; have H1 := Lib.hid (HAL.out m).1; have HB := Lib.hid (HAL.out m).2; clear HAL; have hl1 := H1.out.lt; generalize wr.drewN m = wd at *) | (at_builtin; refine append_one rfl _ _ 37 rfl Try.underlying37 infoInt rfl (by omega) rfl (H1.out.alloc _) (by omega) rfl (new_cell (by simp)) rfl ?_; intro g' c' w3 o3 oo3 l3; have O3 := Lib.hid o3; have OO3 := Lib.hid oo3; clear o3 oo3 l3))
        go_roundw
        case rel =>
          have b2 := HB.out.alloc (o := .cells #[.int .i64 (k : Int)] 3 (0, 0)) HB.out.size
          have e1 : (dfL s t (k + 1)).length = (dfL s t k).length + 1 := by rw [HT.out]; simp
          exact ⟨k + 1, g', c', by omega, by go_num, by rw [e1], by rw [e1, HT.out, List.map_append]; exact O3.out, b2.trans (OO3.out.toBelow hl1.1 b2.size)⟩
        case measure => simp [intOf]; omega
      · have HT := Lib.hid (dfL_no hb)
        have HSB := Lib.hid hb
        clear hb
        go_wp2_with (go_at_call 81; refine (isSameStep_is s t k _ HSB.out (by omega) (by omega) hlt (by omega)).mono ?_; rintro e w2 ⟨rfl, m, rfl⟩)
        go_roundw
        case rel => exact ⟨k + 1, g1, c1, by omega, by go_num, by rw [HT.out], by rw [HT.out]; exact H1.out.heap rfl, below_drewN HB.out _⟩
        case measure => simp [intOf]; omega
    · have hk' : k = s.size := by omega
      subst hk'
      go_wp2
      go_ret
      exact GetL.own H1.out (Nat.le_refl _) HB.out
theorem sameSt_t {s t : ByteArray} {k : Nat} (h : k < s.size) (h' : k < t.size) (he : s[k] = t[k]) (hc : cnt s 102 k = cnt t 102 k) : sameSt s t k = true := by
  unfold sameSt; rw [decide_eq_true hc, decide_eq_true (by rw [bt_at h, bt_at h']; exact he)]; rfl
theorem sameSt_c {s t : ByteArray} {k : Nat} (hc : ¬ cnt s 102 k = cnt t 102 k) : sameSt s t k = false := by
  unfold sameSt; rw [decide_eq_false hc, Bool.and_false]
theorem sameSt_b {s t : ByteArray} {k : Nat} (h : k < s.size) (h' : k < t.size) (he : ¬ s[k] = t[k]) : sameSt s t k = false := by
  unfold sameSt; rw [decide_eq_false (by rw [bt_at h, bt_at h']; exact he), Bool.false_and]
theorem byte_ne_f {x y : UInt8} (h : x = y) : (((x.toNat : Nat) : Int) != ((y.toNat : Nat) : Int)) = false := by subst h; simp
theorem byte_ne_t {x y : UInt8} (h : ¬ x = y) : (((x.toNat : Nat) : Int) != ((y.toNat : Nat) : Int)) = true := by
  have : ¬ ((x.toNat : Nat) : Int) = ((y.toNat : Nat) : Int) := fun e => h (UInt8.toNat_inj.1 (by omega))
  simpa using this
set_option maxHeartbeats 4000000 in
theorem sCutsBetween_any (s t : ByteArray) (N : Nat) (w : World) (h : Two s t N) :
    Calls Try.prog 59 #[.string s, .string t] w (GetL (dfL s t N) w) := by
  obtain ⟨hs, ht, hn, hS⟩ := h
  subst hs
  have HS := Lib.hid hS
  have t1 : t.size ≤ 1048576 := by omega
  have t2 : s.size ≤ t.size := by omega
  clear hS ht
  go_enter Try.func59, Try.ntmps59
  have O0 := Lib.hid (Own1.empty w 3)
  have BX := Lib.hid (Below.box w (.cells #[] 3 (0, 0)))
  go_wp2_with fail
  go_loopw [5, 6, 7, 8] (fun v x y i wr => ∃ (k g1 c1 : Nat), k ≤ s.size ∧ i = .int .i64 k ∧ v = .slice (some ⟨g1, 0, none⟩) (dfL s t k).length c1 ∧ x = .int .i64 (cnt s 102 k : Nat) ∧ y = .int .i64 (cnt t 102 k : Nat) ∧ Own1 wr w.heap.size 3 g1 (dfL s t k).length c1 ((dfL s t k).map (Value.int .i64)) ∧ Below w.heap.size w wr) (fun _ _ _ i _ => s.size - (intOf i).toNat)
  case atStart => exact ⟨0, _, 0, Nat.zero_le _, rfl, rfl, by rw [cnt_zero]; rfl, by rw [cnt_zero]; rfl, O0.out, BX.out⟩
  case round =>
    clear O0 BX
    obtain ⟨k, g1, c1, hk, rfl, rfl, rfl, rfl, h1, hB⟩ := hrel
    have H1 := Lib.hid h1
    have HB := Lib.hid hB
    have hl := dfL_len s t k
    have lc1 := cnt_le s 102 k
    have lc2 := cnt_le t 102 k
    clear h1 hB
    by_cases hlt : k < s.size
    · have hlu : k < t.size := by omega
      have i0 : (0 : Int) ≤ (k : Int) := Int.natCast_nonneg _
      have i1 : (k : Int) < (s.size : Int) := by omega
      have i2 : (k : Int) < (t.size : Int) := by omega
      go_wp2_with fail
      refine (sSameFrame_any s t _ (by omega) (by omega)).mono ?_
      rw [HS.out]
      rintro e w1 ⟨rfl, rfl⟩
      by_cases ha : s[k] = 102
      · by_cases hb : t[k] = 102
        · have he : s[k] = t[k] := by rw [ha, hb]
          by_cases hc : cnt s 102 k = cnt t 102 k
          · skip
            have HT := Lib.hid (dfL_no (s := s) (t := t) (k := k) (sameSt_t hlt hlu he hc))
            have ea := byte_102t ha
            have eb := byte_102t hb
            have ee := byte_ne_f he
            have na := Lib.hid (cnt_yes hlt ha)
            have nb := Lib.hid (cnt_yes hlu hb)
            have ec : (((cnt s 102 k : Nat) : Int) != ((cnt t 102 k : Nat) : Int)) = false := by rw [hc]; simp
            have wa : IntKind.i64.wrap (((cnt s 102 k : Nat) : Int) + 1) = ((cnt s 102 k : Nat) : Int) + 1 := IntWalk.i64_in _ (by omega)
            have wb : IntKind.i64.wrap (((cnt t 102 k : Nat) : Int) + 1) = ((cnt t 102 k : Nat) : Int) + 1 := IntWalk.i64_in _ (by omega)
            clear ha hb he hc
            generalize cnt s 102 k = cs at *
            generalize cnt t 102 k = ct at *
            go_wp2_with fail
            go_quiet (fail)
            go_wp2
            go_roundw
            case rel => exact ⟨k + 1, g1, c1, by omega, by go_num, by rw [HT.out], by rw [na.out]; go_num, by rw [nb.out]; go_num, by rw [HT.out]; exact H1.out.heap rfl, below_drewN HB.out _⟩
            case measure => simp [intOf]; omega
          · skip
            have HT := Lib.hid (dfL_yes (s := s) (t := t) (k := k) (sameSt_c hc))
            have ea := byte_102t ha
            have eb := byte_102t hb
            have ee := byte_ne_f he
            have na := Lib.hid (cnt_yes hlt ha)
            have nb := Lib.hid (cnt_yes hlu hb)
            have ec : (((cnt s 102 k : Nat) : Int) != ((cnt t 102 k : Nat) : Int)) = true := by simp; omega
            have wa : IntKind.i64.wrap (((cnt s 102 k : Nat) : Int) + 1) = ((cnt s 102 k : Nat) : Int) + 1 := IntWalk.i64_in _ (by omega)
            have wb : IntKind.i64.wrap (((cnt t 102 k : Nat) : Int) + 1) = ((cnt t 102 k : Nat) : Int) + 1 := IntWalk.i64_in _ (by omega)
            clear ha hb he hc
            generalize cnt s 102 k = cs at *
            generalize cnt t 102 k = ct at *
            have HAL : Hid (∀ m, Own1 (wr.drewN m) w.heap.size 3 g1 (dfL s t k).length c1 ((dfL s t k).map (Value.int .i64)) ∧ Below w.heap.size w (wr.drewN m)) := Lib.hid (fun m => ⟨H1.out.heap rfl, below_drewN HB.out m⟩)
            clear H1 HB
            go_wp2_with fail
            go_quiet (fail)
            have H1 := Lib.hid (HAL.out nq).1
            have HB := Lib.hid (HAL.out nq).2
            have hl1 := H1.out.lt
            generalize wr.drewN nq = wd at *
            go_wp2_with (at_builtin; refine append_one rfl _ _ 37 rfl Try.underlying37 infoInt rfl (by omega) rfl (H1.out.alloc _) (by omega) rfl (new_cell (by simp)) rfl ?_; intro g' c' w3 o3 oo3 l3; have O3 := Lib.hid o3; have OO3 := Lib.hid oo3; clear o3 oo3 l3)
            go_roundw
            case rel =>
              have b2 := HB.out.alloc (o := .cells #[.int .i64 (k : Int)] 3 (0, 0)) HB.out.size
              have e1 : (dfL s t (k + 1)).length = (dfL s t k).length + 1 := by rw [HT.out]; simp
              exact ⟨k + 1, g', c', by omega, by go_num, by rw [e1], by rw [na.out]; go_num, by rw [nb.out]; go_num, by rw [e1, HT.out, List.map_append]; exact O3.out, b2.trans (OO3.out.toBelow hl1.1 b2.size)⟩
            case measure => simp [intOf]; omega
        · have he : ¬ s[k] = t[k] := fun e => hb (by rw [← e]; exact ha)
          have HT := Lib.hid (dfL_yes (s := s) (t := t) (k := k) (sameSt_b hlt hlu he))
          have ea := byte_102t ha
          have eb := byte_102f hb
          have ee := byte_ne_t he
          have na := Lib.hid (cnt_yes hlt ha)
          have nb := Lib.hid (cnt_no hlu hb)
          have wa : IntKind.i64.wrap (((cnt s 102 k : Nat) : Int) + 1) = ((cnt s 102 k : Nat) : Int) + 1 := IntWalk.i64_in _ (by omega)
          clear ha hb he
          generalize cnt s 102 k = cs at *
          generalize cnt t 102 k = ct at *
          have HAL : Hid (∀ m, Own1 (wr.drewN m) w.heap.size 3 g1 (dfL s t k).length c1 ((dfL s t k).map (Value.int .i64)) ∧ Below w.heap.size w (wr.drewN m)) := Lib.hid (fun m => ⟨H1.out.heap rfl, below_drewN HB.out m⟩)
          clear H1 HB
          go_wp2_with fail
          go_quiet (fail)
          have H1 := Lib.hid (HAL.out nq).1
          have HB := Lib.hid (HAL.out nq).2
          have hl1 := H1.out.lt
          generalize wr.drewN nq = wd at *
          go_wp2_with (at_builtin; refine append_one rfl _ _ 37 rfl Try.underlying37 infoInt rfl (by omega) rfl (H1.out.alloc _) (by omega) rfl (new_cell (by simp)) rfl ?_; intro g' c' w3 o3 oo3 l3; have O3 := Lib.hid o3; have OO3 := Lib.hid oo3; clear o3 oo3 l3)
          go_roundw
          case rel =>
            have b2 := HB.out.alloc (o := .cells #[.int .i64 (k : Int)] 3 (0, 0)) HB.out.size
            have e1 : (dfL s t (k + 1)).length = (dfL s t k).length + 1 := by rw [HT.out]; simp
            exact ⟨k + 1, g', c', by omega, by go_num, by rw [e1], by rw [na.out]; go_num, by rw [nb.out], by rw [e1, HT.out, List.map_append]; exact O3.out, b2.trans (OO3.out.toBelow hl1.1 b2.size)⟩
          case measure => simp [intOf]; omega
      · by_cases hb : t[k] = 102
        · have he : ¬ s[k] = t[k] := fun e => ha (by rw [e]; exact hb)
          have HT := Lib.hid (dfL_yes (s := s) (t := t) (k := k) (sameSt_b hlt hlu he))
          have ea := byte_102f ha
          have eb := byte_102t hb
          have ee := byte_ne_t he
          have na := Lib.hid (cnt_no hlt ha)
          have nb := Lib.hid (cnt_yes hlu hb)
          have wb : IntKind.i64.wrap (((cnt t 102 k : Nat) : Int) + 1) = ((cnt t 102 k : Nat) : Int) + 1 := IntWalk.i64_in _ (by omega)
          clear ha hb he
          generalize cnt s 102 k = cs at *
          generalize cnt t 102 k = ct at *
          have HAL : Hid (∀ m, Own1 (wr.drewN m) w.heap.size 3 g1 (dfL s t k).length c1 ((dfL s t k).map (Value.int .i64)) ∧ Below w.heap.size w (wr.drewN m)) := Lib.hid (fun m => ⟨H1.out.heap rfl, below_drewN HB.out m⟩)
          clear H1 HB
          go_wp2_with fail
          go_quiet (fail)
          have H1 := Lib.hid (HAL.out nq).1
          have HB := Lib.hid (HAL.out nq).2
          have hl1 := H1.out.lt
          generalize wr.drewN nq = wd at *
          go_wp2_with (at_builtin; refine append_one rfl _ _ 37 rfl Try.underlying37 infoInt rfl (by omega) rfl (H1.out.alloc _) (by omega) rfl (new_cell (by simp)) rfl ?_; intro g' c' w3 o3 oo3 l3; have O3 := Lib.hid o3; have OO3 := Lib.hid oo3; clear o3 oo3 l3)
          go_roundw
          case rel =>
            have b2 := HB.out.alloc (o := .cells #[.int .i64 (k : Int)] 3 (0, 0)) HB.out.size
            have e1 : (dfL s t (k + 1)).length = (dfL s t k).length + 1 := by rw [HT.out]; simp
            exact ⟨k + 1, g', c', by omega, by go_num, by rw [e1], by rw [na.out], by rw [nb.out]; go_num, by rw [e1, HT.out, List.map_append]; exact O3.out, b2.trans (OO3.out.toBelow hl1.1 b2.size)⟩
          case measure => simp [intOf]; omega
        · by_cases he : s[k] = t[k]
          · by_cases hc : cnt s 102 k = cnt t 102 k
            · skip
              have HT := Lib.hid (dfL_no (s := s) (t := t) (k := k) (sameSt_t hlt hlu he hc))
              have ea := byte_102f ha
              have eb := byte_102f hb
              have ee := byte_ne_f he
              have na := Lib.hid (cnt_no hlt ha)
              have nb := Lib.hid (cnt_no hlu hb)
              have ec : (((cnt s 102 k : Nat) : Int) != ((cnt t 102 k : Nat) : Int)) = false := by rw [hc]; simp
              clear ha hb he hc
              generalize cnt s 102 k = cs at *
              generalize cnt t 102 k = ct at *
              go_wp2_with fail
              go_quiet (fail)
              go_wp2
              go_roundw
              case rel => exact ⟨k + 1, g1, c1, by omega, by go_num, by rw [HT.out], by rw [na.out], by rw [nb.out], by rw [HT.out]; exact H1.out.heap rfl, below_drewN HB.out _⟩
              case measure => simp [intOf]; omega
            · skip
              have HT := Lib.hid (dfL_yes (s := s) (t := t) (k := k) (sameSt_c hc))
              have ea := byte_102f ha
              have eb := byte_102f hb
              have ee := byte_ne_f he
              have na := Lib.hid (cnt_no hlt ha)
              have nb := Lib.hid (cnt_no hlu hb)
              have ec : (((cnt s 102 k : Nat) : Int) != ((cnt t 102 k : Nat) : Int)) = true := by simp; omega
              clear ha hb he hc
              generalize cnt s 102 k = cs at *
              generalize cnt t 102 k = ct at *
              have HAL : Hid (∀ m, Own1 (wr.drewN m) w.heap.size 3 g1 (dfL s t k).length c1 ((dfL s t k).map (Value.int .i64)) ∧ Below w.heap.size w (wr.drewN m)) := Lib.hid (fun m => ⟨H1.out.heap rfl, below_drewN HB.out m⟩)
              clear H1 HB
              go_wp2_with fail
              go_quiet (fail)
              have H1 := Lib.hid (HAL.out nq).1
              have HB := Lib.hid (HAL.out nq).2
              have hl1 := H1.out.lt
              generalize wr.drewN nq = wd at *
              go_wp2_with (at_builtin; refine append_one rfl _ _ 37 rfl Try.underlying37 infoInt rfl (by omega) rfl (H1.out.alloc _) (by omega) rfl (new_cell (by simp)) rfl ?_; intro g' c' w3 o3 oo3 l3; have O3 := Lib.hid o3; have OO3 := Lib.hid oo3; clear o3 oo3 l3)
              go_roundw
              case rel =>
                have b2 := HB.out.alloc (o := .cells #[.int .i64 (k : Int)] 3 (0, 0)) HB.out.size
                have e1 : (dfL s t (k + 1)).length = (dfL s t k).length + 1 := by rw [HT.out]; simp
                exact ⟨k + 1, g', c', by omega, by go_num, by rw [e1], by rw [na.out], by rw [nb.out], by rw [e1, HT.out, List.map_append]; exact O3.out, b2.trans (OO3.out.toBelow hl1.1 b2.size)⟩
              case measure => simp [intOf]; omega
          · skip
            have HT := Lib.hid (dfL_yes (s := s) (t := t) (k := k) (sameSt_b hlt hlu he))
            have ea := byte_102f ha
            have eb := byte_102f hb
            have ee := byte_ne_t he
            have na := Lib.hid (cnt_no hlt ha)
            have nb := Lib.hid (cnt_no hlu hb)
            clear ha hb he
            generalize cnt s 102 k = cs at *
            generalize cnt t 102 k = ct at *
            have HAL : Hid (∀ m, Own1 (wr.drewN m) w.heap.size 3 g1 (dfL s t k).length c1 ((dfL s t k).map (Value.int .i64)) ∧ Below w.heap.size w (wr.drewN m)) := Lib.hid (fun m => ⟨H1.out.heap rfl, below_drewN HB.out m⟩)
            clear H1 HB
            go_wp2_with fail
            go_quiet (fail)
            have H1 := Lib.hid (HAL.out nq).1
            have HB := Lib.hid (HAL.out nq).2
            have hl1 := H1.out.lt
            generalize wr.drewN nq = wd at *
            go_wp2_with (at_builtin; refine append_one rfl _ _ 37 rfl Try.underlying37 infoInt rfl (by omega) rfl (H1.out.alloc _) (by omega) rfl (new_cell (by simp)) rfl ?_; intro g' c' w3 o3 oo3 l3; have O3 := Lib.hid o3; have OO3 := Lib.hid oo3; clear o3 oo3 l3)
            go_roundw
            case rel =>
              have b2 := HB.out.alloc (o := .cells #[.int .i64 (k : Int)] 3 (0, 0)) HB.out.size
              have e1 : (dfL s t (k + 1)).length = (dfL s t k).length + 1 := by rw [HT.out]; simp
              exact ⟨k + 1, g', c', by omega, by go_num, by rw [e1], by rw [na.out], by rw [nb.out], by rw [e1, HT.out, List.map_append]; exact O3.out, b2.trans (OO3.out.toBelow hl1.1 b2.size)⟩
            case measure => simp [intOf]; omega
    · have hk' : k = s.size := by omega
      subst hk'
      go_wp2
      go_ret
      exact GetL.own H1.out (Nat.le_refl _) HB.out
end Go.Proofs.Ytlplfpoggifadaa
