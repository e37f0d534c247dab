/-
  Drawn cuts: contracts of l20List and DrawCuts: at most five valid cuts.
  By an AI agent.
-/
import Derived.Test.YtlplfpoggifadaaOwnA
import Derived.Test.YtlplfpoggifadaaCutG
import Derived.Deep.RegionLaw
namespace Go.Proofs.Ytlplfpoggifadaa
open Go.ChangeShapes Go.WideShapes Go.ChangeAt Go.RowKit Go.Joins Go.Deep
set_option maxRecDepth 100000
set_option linter.unusedVariables false

def drawnK (p : DCut) : Prop := (0 ≤ p.k ∧ p.k ≤ 7) ∧ (0 ≤ p.g ∧ p.g ≤ 9) ∧ p.g < p.s ∧ p.s ≤ 14
theorem drawnK_ok {ps : List DCut} (h : ∀ p ∈ ps, drawnK p) : cAll ps = true := by
  unfold cAll
  rw [List.all_eq_true]
  intro p hp
  obtain ⟨h1, h2, h3, h4⟩ := h p hp
  exact cOk_iff.2 (by omega)
def LstK (b : Nat) (a : Option Addr) (l c : Nat) (w : World) (e : Ending) (w' : World) : Prop :=
  ∃ (n g cS : Nat) (ps : List DCut), e = .returned (.slice (some ⟨g, 0, none⟩) n cS) ∧ ps.length = n ∧ Row w' g (n * 3) (cc ps) ∧ w.heap.size ≤ g ∧ n ≤ 5 ∧ (∀ p ∈ ps, drawnK p) ∧ Dr w' b a l c ∧ OnlyB b w w'
set_option maxHeartbeats 3200000 in
theorem cuts_any (b : Nat) (a : Option Addr) (l c : Nat) (w : World) (hD : Dr w b a l c) :
    Calls Try.prog 54 #[.pointer (some ⟨b, 0, none⟩)] w (LstK b a l c w) := by
  have hbw := hD.lt
  have hb1 := Below.box w (.cells #[] 51 (0, 0))
  have HD1 := Lib.hid (hD.below hb1)
  have HO1 := Lib.hid ((OnlyB.refl b w).belowB hb1 (Nat.le_refl _))
  have HE1 : Hid (Own3 (w.alloc (.cells #[] 51 (0, 0))) w.heap.size 51 w.heap.size 0 0 (cv [])) := Lib.hid (owns_empty w 51 3)
  have HD := Lib.hid hD
  have z1 := hb1.size
  clear hD hb1
  go_enter Try.func54, Try.ntmps54
  go_wp2_with fail
  generalize w.alloc (.cells #[] 51 (0, 0)) = wA at *
  refine (below_any b a l c 6 _ (by omega) HD1.out).mono ?_
  rintro e w2 ⟨v2, rfl, ⟨hu0, hu1, _⟩, hD2, hO2⟩
  have hu1' := hu1 (by omega)
  obtain ⟨n, rfl⟩ : ∃ f : Nat, v2 = (f : Int) := ⟨v2.toNat, by omega⟩
  have hn5 : n ≤ 5 := by omega
  have HE2 := Lib.hid (HE1.out.keep hO2 (by omega))
  have HD2 := Lib.hid hD2
  have HO2 := Lib.hid (HO1.out.then hO2)
  clear hD2 hO2 hu1 hu0 hu1' HE1 HD1 HO1
  go_wp2_with fail
  go_loopw [3, 5] (fun s i wr => ∃ (k cS g : Nat) (ps : List DCut), k ≤ n ∧ i = .int .i64 k ∧ s = .slice (some ⟨g, 0, none⟩) k cS ∧ ps.length = k ∧ Own3 wr w.heap.size 51 g k cS (cv ps) ∧ (∀ p ∈ ps, drawnK p) ∧ Dr wr b a l c ∧ OnlyB b w wr) (fun _ i _ => n - (intOf i).toNat)
  case atStart => exact ⟨0, 0, w.heap.size, [], Nat.zero_le _, rfl, rfl, rfl, HE2.out, fun p h => absurd h (by simp), HD2.out, HO2.out⟩
  case round =>
    clear HE2 HD2 HO2
    obtain ⟨k, cS, g, ps, hk, rfl, rfl, hl, hA, hz, hDr, hOr⟩ := hrel
    have HL := Lib.hid hl
    have HA := Lib.hid hA
    have HZ := Lib.hid hz
    have HDr := Lib.hid hDr
    have HOr := Lib.hid hOr
    have hgB := hA.lt
    have hbr := hDr.lt
    have hsr := hOr.size
    clear hl hA hz hDr hOr
    by_cases hlt : k < n
    · go_wp2_with fail
      refine (below_any b a l c 8 _ (by omega) HDr.out).mono ?_
      rintro e w4 ⟨v1, rfl, ⟨a0, a1, _⟩, hD4, hO4⟩
      have a1' := a1 (by omega)
      have HD4 := Lib.hid hD4
      have HO4 := Lib.hid hO4
      clear hD4 hO4 a1
      go_wp2_with fail
      refine (below_any b a l c 10 _ (by omega) HD4.out).mono ?_
      rintro e w5 ⟨v2, rfl, ⟨b0, b1, _⟩, hD5, hO5⟩
      have b1' := b1 (by omega)
      have HD5 := Lib.hid hD5
      have HO5 := Lib.hid (HO4.out.then hO5)
      have h5s := HO5.out.size
      have hbx := Below.box w5 (.cells #[.int .i64 v1, .int .i64 v2, .int .i64 0] 51 (0, 0))
      have HDW := Lib.hid (HD5.out.below (hbx.drew))
      have HPW := Lib.hid ((Row.new3 w5 (.int .i64 v1) (.int .i64 v2) (.int .i64 0) 51).drew)
      have HOW := Lib.hid (HO5.out.belowB hbx.drew h5s)
      have hzW : (w5.alloc (.cells #[.int .i64 v1, .int .i64 v2, .int .i64 0] 51 (0, 0))).drew.heap.size = w5.heap.size + 1 := by simp
      have HZW := Lib.hid hzW
      obtain ⟨⟨x0, x1, x2⟩, g0, g1, g2⟩ := HPW.out.tri3
      have s1 : IntKind.i64.wrap (v2 + 1) = v2 + 1 := IntWalk.i64_in _ (by omega)
      clear hD5 hO5 b1 hbx hzW HO4 HD4 HD5
      go_wp2_with fail
      go_region_law (go_simp; go_at_call 70; refine (below_any b a l c 5 _ (by omega) HDW.out).mono ?_; rintro e w6 ⟨v3, rfl, ⟨c0, c1, _⟩, hD6, hO6⟩; have c1' := c1 (by omega); have HD6 := Lib.hid hD6; have HO6 := Lib.hid (HOW.out.then hO6); have HP6 := Lib.hid (hO6.row HPW.out (by omega)); have h6s := hO6.size; rw [HZW.out] at h6s; obtain ⟨⟨y0, y1, y2⟩, _, _, h2⟩ := HP6.out.tri3; clear hD6 hO6 c1)
      all_goals
        have s2 : IntKind.i64.wrap (v2 + 1 + v3) = v2 + 1 + v3 := IntWalk.i64_in _ (by omega)
        rw [s2]
        clear s2
        have hV : v2 < v2 + 1 + v3 ∧ v2 + 1 + v3 ≤ 14 := by omega
        generalize v2 + 1 + v3 = V at *
        have HPF := Lib.hid ((HP6.out.set 2 (.int .i64 V)).congr (fun j hj => tri_set _ _ _ _ hj))
        have HOF := Lib.hid (HO6.out.setNew (p := ⟨w5.heap.size, 2, none⟩) (by show wr.heap.size ≤ w5.heap.size; omega) (.int .i64 V))
        have HCF := Lib.hid (HD6.out.cur.set_other (p := ⟨w5.heap.size, 2, none⟩) (by show b ≠ w5.heap.size; omega) (.int .i64 V))
        have hz7 : (w6.setCell ⟨w5.heap.size, 2, none⟩ (.int .i64 V)).heap.size = w6.heap.size := by simp
        clear x0 x1 x2 g0 g1 g2 y0 y1 y2 h2 HP6 HO6 HD6
        generalize w6.setCell ⟨w5.heap.size, 2, none⟩ (.int .i64 V) = w7 at *
        obtain ⟨⟨y0, y1, y2⟩, _⟩ := HPF.out.tri3
        have HRD := Lib.hid (HDr.out.keep HOF.out HCF.out)
        have HAF := Lib.hid (HA.out.keep HOF.out (by omega))
        have hbx := Below.box w7 (.cells #[.int .i64 v1, .int .i64 v2, .int .i64 V] 51 (0, 0))
        have HOW2 := Lib.hid (HAF.out.below hbx)
        have HRW := Lib.hid (Row.new3 w7 (.int .i64 v1) (.int .i64 v2) (.int .i64 V) 51)
        have HRD2 := Lib.hid (HRD.out.below hbx)
        have HO8 := Lib.hid ((HOr.out.then HOF.out).below hbx)
        have hz8 : (w7.alloc (.cells #[.int .i64 v1, .int .i64 v2, .int .i64 V] 51 (0, 0))).heap.size = w7.heap.size + 1 := by simp
        have HZ8 := Lib.hid hz8
        have HZ7 := Lib.hid hz7
        have hgA := HAF.out.lt
        clear hbx hz8 hz7 HPF HCF
        go_wp2_with (at_builtin; refine append_three rfl _ _ 26 rfl Try.underlying26 infoCut rfl (by omega) rfl HOW2.out (by omega) rfl HRW.out (fun i _ => by unfold tri; split <;> (try split) <;> rfl) ?_; intro g' c' w9 o9 oo9 l9; have O9 := Lib.hid o9; have OO9 := Lib.hid oo9; clear o9 oo9 l9)
        have hbB : Below w.heap.size (w7.alloc (.cells #[.int .i64 v1, .int .i64 v2, .int .i64 V] 51 (0, 0))) w9 := OO9.out.toBelow hgB.1 (by rw [HZ8.out]; omega)
        have HOZ := Lib.hid (HO8.out.belowB hbB (Nat.le_refl _))
        have HCZ := Lib.hid (HRD2.out.cur.belowB hbB hbw)
        have O10 : Hid (Own3 w9 w.heap.size 51 g' (k + 1) c' (cv (ps ++ [⟨v1, v2, V⟩]))) := Lib.hid (by rw [← cv_push]; exact O9.out)
        have HZN : Hid (∀ p ∈ ps ++ [⟨v1, v2, V⟩], drawnK p) := Lib.hid (fun p hp => by
          rcases List.mem_append.1 hp with h | h
          · exact HZ.out p h
          · rw [List.mem_singleton.1 h]
            exact ⟨⟨a0, by show v1 ≤ 7; omega⟩, ⟨b0, by show v2 ≤ 9; omega⟩, hV.1, hV.2⟩)
        go_roundw
        case rel => exact ⟨k + 1, c', g', ps ++ [⟨v1, v2, V⟩], by omega, by go_num, rfl, by rw [List.length_append, HL.out]; rfl, O10.out, HZN.out, HD.out.keep HOZ.out HCZ.out, HOZ.out⟩
        case measure => simp [intOf]; omega
    · have hk' : n = k := by omega
      subst hk'
      go_wp2
      go_ret
      exact ⟨n, g, cS, ps, rfl, HL.out, HA.out.row HL.out, HA.out.lt.1, hn5, HZ.out, HDr.out, HOr.out⟩
def DrwK (w : World) (e : Ending) (w' : World) : Prop :=
  ∃ (n g cS : Nat) (ps : List DCut), e = .returned (.slice (some ⟨g, 0, none⟩) n cS) ∧ ps.length = n ∧ Row w' g (n * 3) (cc ps) ∧ w.heap.size ≤ g ∧ n ≤ 5 ∧ (∀ p ∈ ps, drawnK p) ∧ Below w.heap.size w w'
theorem drawCuts_any (a : Option Addr) (l c : Nat) (w : World) (hm : l ≤ 1048576) (hY : Bytes w a l) :
    Calls Try.prog 27 #[.slice a l c] w (DrwK w) := by
  go_enter Try.func27, Try.ntmps27
  go_wp2_with fail
  refine (new_any a l c _ hm hY).mono ?_
  rintro e w1 ⟨b, rfl, hb, hD, hBe⟩
  have HBe := Lib.hid hBe
  have hz := hBe.size
  go_wp2_with fail
  refine (cuts_any b a l c _ hD).mono ?_
  rintro e w2 ⟨n, g, cS, ps, rfl, hl, hr, hg, hn, hp, _, hO⟩
  have HX := Lib.hid (show ps.length = n ∧ Row w2 g (n * 3) (cc ps) ∧ w.heap.size ≤ g ∧ n ≤ 5 ∧ (∀ p ∈ ps, drawnK p) ∧ Below w.heap.size w w2 from ⟨hl, hr, by omega, hn, hp, HBe.out.trans (hO.toBelow hb (by omega))⟩)
  clear hl hr hg hn hp hO hD hBe
  go_wp2
  go_ret
  exact ⟨n, g, cS, ps, rfl, HX.out⟩
end Go.Proofs.Ytlplfpoggifadaa
