/-
  Drawn bands: contracts of l19Rows and DrawBands.
  By an AI agent.
-/
import Derived.Test.YtoflcjgimkbgpaaOwnA
import Derived.Test.YtoflcjgimkbgpaaInts
namespace Go.Proofs.Ytoflcjgimkbgpaa
open Go.ChangeShapes Go.WideShapes Go.ChangeAt Go.RowKit
set_option maxRecDepth 100000
set_option linter.unusedVariables false

def iv (zs : List Int) : List Value := zs.map (Value.int .i64)
theorem iv_len (zs : List Int) : (iv zs).length = zs.length := by simp [iv]
theorem iv_push (zs : List Int) (z : Int) : iv zs ++ [Value.int .i64 z] = iv (zs ++ [z]) := by simp [iv]
theorem between_push {zs : List Int} {k : Nat} {x lo hi : Int} (hl : zs.length = k) (h : ∀ j, j < k → lo ≤ zs.getD j 0 ∧ zs.getD j 0 ≤ hi) (h0 : lo ≤ x) (h5 : x ≤ hi) : ∀ j, j < k + 1 → lo ≤ (zs ++ [x]).getD j 0 ∧ (zs ++ [x]).getD j 0 ≤ hi := by
  intro j hj
  by_cases e : j = k
  · subst e
    have : (zs ++ [x]).getD j 0 = x := by simp [List.getD, ← hl]
    rw [this]; exact ⟨h0, h5⟩
  · have : (zs ++ [x]).getD j 0 = zs.getD j 0 := by
      simp only [List.getD]; rw [List.getElem?_append_left (by omega)]
    rw [this]; exact h j (by omega)
def RowsP (b : Nat) (a : Option Addr) (l c : Nat) (w : World) (e : Ending) (w' : World) : Prop :=
  ∃ (wd n g cS : Nat) (zs : List Int), e = .returned (.tuple #[.int .i64 wd, .slice (some ⟨g, 0, none⟩) n cS]) ∧ zs.length = n ∧ Row w' g n (ic zs) ∧ w.heap.size ≤ g ∧ (10 ≤ wd ∧ wd ≤ 39 ∧ n ≤ 11) ∧ (∀ j, j < n → 1 ≤ zs.getD j 0 ∧ zs.getD j 0 ≤ wd) ∧ Dr w' b a l c ∧ OnlyB b w w'
set_option maxHeartbeats 1600000 in
theorem rows_any (b : Nat) (a : Option Addr) (l c : Nat) (w : World) (hD : Dr w b a l c) :
    Calls Try.prog 59 #[.pointer (some ⟨b, 0, none⟩)] w (RowsP b a l c w) := by
  have hlt := hD.lt
  have HD := Lib.hid hD
  clear hD
  go_enter Try.func59, Try.ntmps59
  go_wp2_with fail
  refine (below_any b a l c 30 _ (by omega) HD.out).mono ?_
  rintro e w1 ⟨v1, rfl, ⟨hv0, hv1, _⟩, hD1, hO1⟩
  have hv1' := hv1 (by omega)
  obtain ⟨wd, hd⟩ : ∃ d : Nat, 10 + v1 = (d : Int) := ⟨(10 + v1).toNat, by omega⟩
  have hw1 : 10 ≤ wd := by omega
  have hw2 : wd ≤ 39 := by omega
  have HWE := Lib.hid hd
  have zz1 := hO1.size
  have hb1 := Below.box w1 (.cells #[] 3 (0, 0))
  have HD1 := Lib.hid (hD1.below hb1)
  have HO1 := Lib.hid (hO1.belowB hb1 hO1.size)
  have HE1 := Lib.hid (Own1.empty w1 3)
  have zz2 := HE1.out.lt.2
  clear hD1 hO1 hv1 hd hb1
  go_wp2_with fail
  rw [HWE.out]
  clear HWE hv0 hv1'
  generalize w1.alloc (.cells #[] 3 (0, 0)) = wA at *
  refine (below_any b a l c 12 _ (by omega) HD1.out).mono ?_
  rintro e w2 ⟨v2, rfl, ⟨hu0, hu1, _⟩, hD2, hO2⟩
  have hu1' := hu1 (by omega)
  obtain ⟨n, rfl⟩ : ∃ f : Nat, v2 = (f : Int) := ⟨v2.toNat, by omega⟩
  have hn11 : n ≤ 11 := by omega
  have HE2 := Lib.hid (HE1.out.keep hO2 (by omega))
  have HD2 := Lib.hid hD2
  have HO2 := Lib.hid (HO1.out.then hO2)
  clear hD2 hO2 hu1 hu0 hu1' HE1 HD1 HO1
  generalize w1.heap.size = B at *
  go_wp2_with fail
  go_loopw [5, 7] (fun s i wr => ∃ (k cS g : Nat) (zs : List Int), k ≤ n ∧ i = .int .i64 k ∧ s = .slice (some ⟨g, 0, none⟩) k cS ∧ Own1 wr B 3 g k cS (iv zs) ∧ (∀ j, j < k → 1 ≤ zs.getD j 0 ∧ zs.getD j 0 ≤ wd) ∧ Dr wr b a l c ∧ OnlyB b w wr) (fun _ i _ => n - (intOf i).toNat)
  case atStart => exact ⟨0, 0, B, [], Nat.zero_le _, rfl, rfl, HE2.out, fun j h => absurd h (Nat.not_lt_zero j), HD2.out, HO2.out⟩
  case round =>
    clear HE2 HD2 HO2
    obtain ⟨k, cS, g, zs, hk, rfl, rfl, hA, hz, hDr, hOr⟩ := hrel
    have HA := Lib.hid hA
    have HZ := Lib.hid hz
    have HDr := Lib.hid hDr
    have HOr := Lib.hid hOr
    clear hA hz hDr hOr
    by_cases hlt : k < n
    · go_wp2_with fail
      refine (below_any b a l c wd _ (by omega) HDr.out).mono ?_
      rintro e w4 ⟨v4, rfl, ⟨hv0, hv1, _⟩, hD5, hO5⟩
      have hv1' := hv1 (by omega)
      have hsz := hO5.size
      have hgB := HA.out.lt
      have HA4 := Lib.hid (HA.out.keep hO5 (by omega))
      have hzl : zs.length = k := by rw [← iv_len]; exact HA.out.len
      have HZ2 := Lib.hid (between_push hzl HZ.out (by omega : 1 ≤ 1 + v4) (by omega : 1 + v4 ≤ (wd : Int)))
      have HO5 := Lib.hid (HOr.out.then hO5)
      have HC5 := Lib.hid hD5.cur
      have HO1 := Lib.hid (HA4.out.alloc (.cells #[.int .i64 (1 + v4)] 3 (0, 0)))
      have HC1 : Hid ((w4.alloc (.cells #[.int .i64 (1 + v4)] 3 (0, 0))).cell? ⟨w4.heap.size, 0, none⟩ = some (.int .i64 (1 + v4))) := Lib.hid (new_cell rfl)
      have hbx := Below.box w4 (.cells #[.int .i64 (1 + v4)] 3 (0, 0))
      have HO6 := Lib.hid (HO5.out.belowB hbx HO5.out.size)
      have HC6 := Lib.hid (HC5.out.below hbx)
      have hsz2 := hbx.size
      have HAl := Lib.hid HOr.out.size
      clear hD5 hO5 hv1 hzl hbx
      go_wp2_with (at_builtin; refine append_one rfl (.tmp 19) (.tmp 24) 33 rfl Try.underlying33 infoInt rfl (by omega) (by simp [Act.eval]) HO1.out (by omega) (by simp [Act.eval]) HC1.out rfl ?_; intro g' c' w5 o5 oo5 l5; rw [iv_push] at o5; have O5 := Lib.hid o5; have OO5 := Lib.hid oo5; clear o5 oo5 l5)
      have hbB : Below B (w4.alloc (.cells #[.int .i64 (1 + v4)] 3 (0, 0))) w5 := OO5.out.toBelow hgB.1 (by omega)
      have HOF := Lib.hid (HO6.out.belowB hbB (by omega))
      have HCF := Lib.hid (HC6.out.belowB hbB (by omega))
      go_roundw
      case rel => exact ⟨k + 1, c', g', _, by omega, by go_num, rfl, O5.out, HZ2.out, HD.out.keep HOF.out HCF.out, HOF.out⟩
      case measure => simp [intOf]; omega
    · have hk' : n = k := by omega
      subst hk'
      have hzl : zs.length = n := by rw [← iv_len]; exact HA.out.len
      have HZL := Lib.hid hzl
      clear hzl
      go_wp2
      go_ret2
      exact ⟨wd, n, g, cS, zs, rfl, HZL.out, HA.out.cells, by have := HA.out.lt; omega, ⟨hw1, hw2, hn11⟩, HZ.out, HDr.out, HOr.out⟩
def BandP (w : World) (e : Ending) (w' : World) : Prop :=
  ∃ (wd n g cS : Nat) (zs : List Int), e = .returned (.tuple #[.int .i64 wd, .slice (some ⟨g, 0, none⟩) n cS]) ∧ zs.length = n ∧ Row w' g n (ic zs) ∧ w.heap.size ≤ g ∧ (10 ≤ wd ∧ wd ≤ 39 ∧ n ≤ 11) ∧ (∀ j, j < n → 1 ≤ zs.getD j 0 ∧ zs.getD j 0 ≤ wd) ∧ Below w.heap.size w w'
theorem bands_any (a : Option Addr) (l c : Nat) (w : World) (hm : l ≤ 1048576) (hY : Bytes w a l) :
    Calls Try.prog 22 #[.slice a l c] w (BandP w) := by
  go_enter Try.func22, Try.ntmps22
  go_wp2_with fail
  refine (new_any a l c _ hm hY).mono ?_
  rintro e w1 ⟨b, rfl, hb, hD, hBe⟩
  have HBe := Lib.hid hBe
  have hz := hBe.size
  go_wp2_with fail
  refine (rows_any b a l c _ hD).mono ?_
  rintro e w2 ⟨wd, n, g, cS, zs, rfl, hl, hr, hg, hh, hz2, _, hO⟩
  have HX := Lib.hid (show zs.length = n ∧ Row w2 g n (ic zs) ∧ w.heap.size ≤ g ∧ (10 ≤ wd ∧ wd ≤ 39 ∧ n ≤ 11) ∧ (∀ j, j < n → 1 ≤ zs.getD j 0 ∧ zs.getD j 0 ≤ wd) ∧ Below w.heap.size w w2 from ⟨hl, hr, by omega, hh, hz2, HBe.out.trans (hO.toBelow hb (by omega))⟩)
  clear hl hr hg hh hz2 hO hD hBe
  go_wp2
  go_ret2
  exact ⟨wd, n, g, cS, zs, rfl, HX.out⟩
end Go.Proofs.Ytoflcjgimkbgpaa
