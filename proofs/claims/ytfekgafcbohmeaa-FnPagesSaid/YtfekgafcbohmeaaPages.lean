/-
  The Go function laws.FnPages returns true for every input and leaves its arguments as they were; no condition.
  By an AI agent.
-/
import Derived.Test.YtfekgafcbohmeaaRows
import Derived.WalkKit
import Derived.ProofKit
import Derived.OpenShut
import Derived.Carry
import Derived.ChangeOld
import Derived.Below
import Derived.Lib.SmallJoins
import Derived.Deep.Slices
import Derived.Deep.Fields
import Derived.Lib.Hide
import Derived.Test.YtfekgafcbohmeaaPagesF
import Derived.Deep.DeepCutAuto
namespace Go.Proofs.Ytfekgafcbohmeaa.fnPages
open Go.Proofs.Ytfekgafcbohmeaa Go.ChangeShapes Go.WideShapes Go.ChangeAt Go.RowKit Go.Joins Go.Deep

set_option linter.unusedVariables false
set_option maxRecDepth 100000

theorem own : ownKnob Try.prog.godebug = none := by kernel_rfl
theorem laidOut : laidOutB Try.prog = true := by kernel_rfl

theorem infoInt : (Try.prog.info? 3).map (fun i => (i.zero, i.size, i.bytes)) = some (some (.int .i64 0), 1, 8) := by kernel_rfl
theorem cN_next {P : Int} {s d : Nat} (hd : d < 2) : cN P (2 * s + d + 1) = fun q => (cN P (2 * s + d) q + ind (sideL P s d) q) + ind (sideR P s d) q := by
  funext q
  show cN P (2 * s + d) q + ind (sideL P ((2 * s + d) / 2 : Nat) ((2 * s + d) % 2 : Nat)) q + ind (sideR P ((2 * s + d) / 2 : Nat) ((2 * s + d) % 2 : Nat)) q = _
  rw [show (2 * s + d) / 2 = s by omega, show (2 * s + d) % 2 = d by omega]
theorem side_sum {P s d : Int} (h1 : 1 ≤ P) (h5 : 0 ≤ s) (h6 : s < shq P) (h7 : d = 0 ∨ d = 1) (hl : 0 < sideL P s d) (hr : 0 < sideR P s d) : sideL P s d + sideR P s d = 4 * shq P + 1 := by
  unfold sideL real at *
  unfold sideR real at *
  rcases h7 with rfl | rfl
  · simp only [if_true] at *
    split at hl <;> split at hr <;> first | omega | (split <;> split <;> omega)
  · simp only [show ¬ ((1 : Int) = 0) by omega, if_false] at *
    split at hl <;> split at hr <;> first | omega | (split <;> split <;> omega)

set_option maxHeartbeats 4000000 in
theorem walk (w : World) (a0 : Option Addr) (l0 c0 : Nat) (z0 : List Int) (w0 : IsRow .u8 w a0 l0 c0 z0) :
    Calls Try.prog 8 #[.slice a0 l0 c0] w fun e w' => e = .returned (.bool true) ∧ Below w.heap.size w w' := by
  obtain ⟨hmx, _⟩ := w0.cells
  have W0 := Lib.hid w0
  by_cases hbig : l0 ≤ 1048576
  · have hb : decide (1048576 < (l0 : Int)) = false := decide_eq_false (by omega)
    go_enter Try.func8, Try.ntmps8
    go_wp2_with fail
    refine (big_any a0 l0 c0 _ hmx).mono ?_
    rw [hb]
    rintro e w1 ⟨rfl, rfl⟩
    go_wp2_with fail
    refine (at_any a0 l0 c0 z0 0 _ (by omega) W0.out).mono ?_
    rintro e w1 ⟨⟨v, rfl, v0, v1⟩, rfl⟩
    have hvm : 0 ≤ v % 100 ∧ v % 100 ≤ 99 := by omega
    obtain ⟨hv0, hv1⟩ := hvm
    go_wp2_with fail
    generalize hP : 1 + v % 100 = P at *
    obtain ⟨p, rfl⟩ : ∃ p : Nat, P = (p : Int) := ⟨P.toNat, by omega⟩
    have h1 : (1 : Int) ≤ p := by omega
    have h2 : (p : Int) ≤ 100 := by omega
    clear hP v0 v1 hv0 hv1 hb
    refine (iSheetsOfBook_any p _ h1 (by omega)).mono ?_
    rintro e w1 ⟨rfl, rfl⟩
    go_wp2_with fail
    refine (iBlankPages_any p _ h1 (by omega)).mono ?_
    rintro e w1 ⟨rfl, rfl⟩
    obtain ⟨i0, hi0, hz0, hz1, hz2⟩ := info_parts infoInt
    obtain ⟨q1, q2, q3, q4⟩ := shq_bd h1 (show (p : Int) ≤ 400 by omega)
    generalize hn : shq (p : Int) = n at *
    generalize hbk : 4 * n - (p : Int) = b at *
    have HN := Lib.hid hn
    have HBK := Lib.hid hbk
    have b0 : 0 ≤ b := by omega
    have b3 : b ≤ 3 := by omega
    have t1 : (4 * n - b != (p : Int)) = false := by simp; omega
    clear hn hbk
    have e29 : IntKind.i64.wrap ((p : Int) + 1) = ((p + 1 : Nat) : Int) := IntWalk.i64_in _ (by omega)
    have e29' : wrap64 ((p : Int) + 1) = ((p + 1 : Nat) : Int) := by rw [← IntWalk.i64_left]; exact e29
    go_wp2_with (at_make; refine wpList_make_full _ rfl _ _ 33 rfl w.heap.size 3 i0 _ 1 Try.underlying33 hi0 hz0 hz1 .i64 .i64 (p + 1) (p + 1) (p + 1) rfl rfl rfl rfl (by rw [hz2]; omega) (by unfold maxLen; omega) (Nat.le_refl _) ?_; intro w1 own1 gr1)
    clear e29 e29' t1
    have R0 : Row w1 w.heap.size (p + 1) (kc (cN p 0)) := ((Row.of_owns own1).mono (M := p + 1) (by omega)).congr fun j hj => by
      rw [made_at _ _ _ (by omega)]
      simp [Value.cells, Nat.mod_one, kc, cN]
    have B0 : Below w.heap.size w w1 := (Below.refl _ _).grown gr1 (Nat.le_refl _) (by simp)
    clear own1 gr1
    generalize hg : w.heap.size = g at *
    go_loopw [7] (fun i wr => ∃ s : Nat, (s : Int) ≤ n ∧ i = .int .i64 s ∧ Row wr g (p + 1) (kc (cN p (2 * s))) ∧ Below g w wr) (fun i _ => n.toNat - (intOf i).toNat)
    case atStart => exact ⟨0, by omega, rfl, R0, B0⟩
    case round =>
      clear R0 B0
      obtain ⟨s, hs, rfl, hr, hB⟩ := hrel
      rename World => wo
      have HR := Lib.hid hr
      have HB := Lib.hid hB
      clear hr hB
      by_cases hlt : (s : Int) < n
      · go_wp2
        go_loopw [8] (fun i wr => ∃ d : Nat, d ≤ 2 ∧ i = .int .i64 d ∧ Row wr g (p + 1) (kc (cN p (2 * s + d))) ∧ Below g w wr) (fun i _ => 2 - (intOf i).toNat)
        case atStart => exact ⟨0, by omega, rfl, HR.out, HB.out⟩
        case round =>
          clear HR HB
          obtain ⟨d, hd, rfl, hr, hB⟩ := hrel
          rename World => wi
          have HR := Lib.hid hr
          have HB := Lib.hid hB
          clear hr hB
          by_cases hlt2 : d < 2
          · have hls := side_bd (pages := p) (s := s) (d := d) h1 (by omega) (by rw [HN.out]; exact hlt)
            have HLS := Lib.hid (side_sum (P := p) (s := s) (d := d) h1 (by omega) (by rw [HN.out]; exact hlt) (by omega))
            have HM := Lib.hid (fun (q : Int) (h3 : 1 ≤ q) (h4 : q ≤ p) => side_match (pages := p) (p := q) (s := s) (d := d) h1 h3 h4 (by omega) (by rw [HN.out]; exact hlt) (by omega))
            have HNX := Lib.hid (cN_next (P := p) (s := s) hlt2)
            have HBD := Lib.hid (cN_bd p (2 * s + d))
            have hsl : (s : Int) < shq p := by rw [HN.out]; exact hlt
            have HSL := Lib.hid hsl
            clear hsl
            go_wp2_with fail
            refine (iSideOf_any p s d _ h1 (by omega) (by omega) HSL.out (by omega) (by omega)).mono ?_
            rintro e w2 ⟨rfl, rfl⟩
            generalize sideL p s d = x at *
            generalize sideR p s d = y at *
            obtain ⟨x0, x1, y0, y1⟩ := hls
            rw [HN.out] at HLS
            have hsum : 0 < x → 0 < y → (x + y != 4 * n + 1) = false := fun a b => by have := HLS.out a b; simp; omega
            obtain ⟨X, rfl⟩ : ∃ X : Nat, x = (X : Int) := ⟨x.toNat, by omega⟩
            obtain ⟨Y, rfl⟩ : ∃ Y : Nat, y = (Y : Int) := ⟨y.toNat, by omega⟩
            have A : (X = 0 ∧ Y = 0) ∨ (X = 0 ∧ 0 < Y) ∨ (0 < X ∧ Y = 0) ∨ (0 < X ∧ 0 < Y) := by omega
            rcases A with ⟨rfl, rfl⟩ | ⟨rfl, hY⟩ | ⟨hX, rfl⟩ | ⟨hX, hY⟩
            all_goals
              try have t2 := hsum (by omega) (by omega)
              clear hsum
            · have HB2 := Lib.hid (HB.out.setCell (p := ⟨g, 0, none⟩) (Nat.le_refl _) (.int .i64 (cN p (2 * s + d) ((0 : Nat) : Int) + 1)))
              have HRX := Lib.hid (kc_set (a := ((0 : Nat) : Int)) (v := cN p (2 * s + d) ((0 : Nat) : Int) + 1) HR.out (by omega) rfl)
              have c1 := HR.out.cell (i := 0) (by omega)
              have f1 := HR.out.frozen 0
              unfold kc at c1
              obtain ⟨u0, u1⟩ := HBD.out ((0 : Nat) : Int)
              rw [Int.toNat_natCast] at HRX
              have HU : Hid (∀ q : Int, 0 ≤ cN p (2 * s + d) q + ind ((0 : Nat) : Int) q ∧ cN p (2 * s + d) q + ind ((0 : Nat) : Int) q ≤ 1000) := Lib.hid (fun q => by have := HBD.out q; unfold ind; split <;> omega)
              generalize hu : cN p (2 * s + d) ((0 : Nat) : Int) = u at *
              clear hu
              go_upto_region 19 with (fail)
              generalize wi.setCell ⟨g, 0, none⟩ (.int .i64 (u + 1)) = w2 at *
              clear c1 f1 u0 u1
              have HRY := Lib.hid (kc_set (a := ((0 : Nat) : Int)) (v := cN p (2 * s + d) ((0 : Nat) : Int) + ind ((0 : Nat) : Int) ((0 : Nat) : Int) + 1) HRX.out (by omega) rfl)
              have HB3 := Lib.hid (HB2.out.setCell (p := ⟨g, 0, none⟩) (Nat.le_refl _) (.int .i64 (cN p (2 * s + d) ((0 : Nat) : Int) + ind ((0 : Nat) : Int) ((0 : Nat) : Int) + 1)))
              have c2 := HRX.out.cell (i := 0) (by omega)
              have f2 := HRX.out.frozen 0
              unfold kc at c2
              obtain ⟨u0, u1⟩ := HU.out ((0 : Nat) : Int)
              rw [Int.toNat_natCast] at HRY
              simp only at c2
              generalize hu : cN p (2 * s + d) ((0 : Nat) : Int) + ind ((0 : Nat) : Int) ((0 : Nat) : Int) = u2 at *
              clear hu
              have hsz2 : g < w2.heap.size := HRX.out.lt
              go_upto_region 20 with (fail)
              generalize w2.setCell ⟨g, 0, none⟩ (.int .i64 (u2 + 1)) = w3 at *
              clear c2 f2 u0 u1 hsz2
              have HB4 := Lib.hid (HB3.out.alloc (Nat.le_of_lt HRY.out.lt) (.cells #[.int .i64 0, .int .i64 0] 3 (0, 0)))
              have HR4 := Lib.hid (HRY.out.below ((Below.refl w3.heap.size w3).alloc (Nat.le_refl _) (.cells #[.int .i64 0, .int .i64 0] 3 (0, 0))) HRY.out.lt)
              have HQ : Hid (Row (w3.alloc (.cells #[.int .i64 0, .int .i64 0] 3 (0, 0))) w3.heap.size 2 (fun i => if i = 0 then .int .i64 0 else .int .i64 0)) := Lib.hid ((Row.of_new w3 #[.int .i64 0, .int .i64 0] 3).congr fun i hi => by
                have : i = 0 ∨ i = 1 := by simp at hi; omega
                rcases this with rfl | rfl <;> rfl)
              go_wp2
              generalize w3.alloc (.cells #[.int .i64 0, .int .i64 0] 3 (0, 0)) = W3 at *
              generalize w3.heap.size = k3 at *
              have d0 : W3.cell? ⟨k3, 0, none⟩ = some (.int .i64 0) := HQ.out.cell (i := 0) (by omega)
              have d1 : W3.cell? ⟨k3, 1, none⟩ = some (.int .i64 0) := HQ.out.cell (i := 1) (by omega)
              refine wp_loop_rounds 3 ?_
              rw [rounds_succ]
              go_wp2
              rw [rounds_succ]
              go_wp2
              rw [rounds_succ]
              go_wp2
              go_roundw
              case rel => exact ⟨d + 1, by omega, by go_num, by show Row _ _ _ (kc (cN p (2 * s + d + 1))); rw [HNX.out]; exact HR4.out, HB4.out⟩
              case measure => simp [intOf]; omega
            · have HB2 := Lib.hid (HB.out.setCell (p := ⟨g, 0, none⟩) (Nat.le_refl _) (.int .i64 (cN p (2 * s + d) ((0 : Nat) : Int) + 1)))
              have HRX := Lib.hid (kc_set (a := ((0 : Nat) : Int)) (v := cN p (2 * s + d) ((0 : Nat) : Int) + 1) HR.out (by omega) rfl)
              have c1 := HR.out.cell (i := 0) (by omega)
              have f1 := HR.out.frozen 0
              unfold kc at c1
              obtain ⟨u0, u1⟩ := HBD.out ((0 : Nat) : Int)
              rw [Int.toNat_natCast] at HRX
              have HU : Hid (∀ q : Int, 0 ≤ cN p (2 * s + d) q + ind ((0 : Nat) : Int) q ∧ cN p (2 * s + d) q + ind ((0 : Nat) : Int) q ≤ 1000) := Lib.hid (fun q => by have := HBD.out q; unfold ind; split <;> omega)
              generalize hu : cN p (2 * s + d) ((0 : Nat) : Int) = u at *
              clear hu
              go_upto_region 19 with (fail)
              generalize wi.setCell ⟨g, 0, none⟩ (.int .i64 (u + 1)) = w2 at *
              clear c1 f1 u0 u1
              have HRY := Lib.hid (kc_set (a := ((Y : Nat) : Int)) (v := cN p (2 * s + d) ((Y : Nat) : Int) + ind ((0 : Nat) : Int) ((Y : Nat) : Int) + 1) HRX.out (by omega) rfl)
              have HB3 := Lib.hid (HB2.out.setCell (p := ⟨g, Y, none⟩) (Nat.le_refl _) (.int .i64 (cN p (2 * s + d) ((Y : Nat) : Int) + ind ((0 : Nat) : Int) ((Y : Nat) : Int) + 1)))
              have c2 := HRX.out.cell (i := Y) (by omega)
              have f2 := HRX.out.frozen Y
              unfold kc at c2
              obtain ⟨u0, u1⟩ := HU.out ((Y : Nat) : Int)
              rw [Int.toNat_natCast] at HRY
              simp only at c2
              generalize hu : cN p (2 * s + d) ((Y : Nat) : Int) + ind ((0 : Nat) : Int) ((Y : Nat) : Int) = u2 at *
              clear hu
              have hsz2 : g < w2.heap.size := HRX.out.lt
              go_upto_region 20 with (fail)
              generalize w2.setCell ⟨g, Y, none⟩ (.int .i64 (u2 + 1)) = w3 at *
              clear c2 f2 u0 u1 hsz2
              have HB4 := Lib.hid (HB3.out.alloc (Nat.le_of_lt HRY.out.lt) (.cells #[.int .i64 0, .int .i64 ((Y : Nat) : Int)] 3 (0, 0)))
              have HR4 := Lib.hid (HRY.out.below ((Below.refl w3.heap.size w3).alloc (Nat.le_refl _) (.cells #[.int .i64 0, .int .i64 ((Y : Nat) : Int)] 3 (0, 0))) HRY.out.lt)
              have HQ : Hid (Row (w3.alloc (.cells #[.int .i64 0, .int .i64 ((Y : Nat) : Int)] 3 (0, 0))) w3.heap.size 2 (fun i => if i = 0 then .int .i64 0 else .int .i64 ((Y : Nat) : Int))) := Lib.hid ((Row.of_new w3 #[.int .i64 0, .int .i64 ((Y : Nat) : Int)] 3).congr fun i hi => by
                have : i = 0 ∨ i = 1 := by simp at hi; omega
                rcases this with rfl | rfl <;> rfl)
              go_wp2
              generalize w3.alloc (.cells #[.int .i64 0, .int .i64 ((Y : Nat) : Int)] 3 (0, 0)) = W3 at *
              generalize w3.heap.size = k3 at *
              have d0 : W3.cell? ⟨k3, 0, none⟩ = some (.int .i64 0) := HQ.out.cell (i := 0) (by omega)
              have d1 : W3.cell? ⟨k3, 1, none⟩ = some (.int .i64 ((Y : Nat) : Int)) := HQ.out.cell (i := 1) (by omega)
              refine wp_loop_rounds 3 ?_
              rw [rounds_succ]
              go_wp2
              rw [rounds_succ]
              obtain ⟨es, ed⟩ := (HM.out ((Y : Nat) : Int) (by omega) (by omega)).1 (.inr rfl)
              have HES := Lib.hid es
              have HED := Lib.hid ed
              clear es ed
              go_wp2_with (go_at_call 24; refine (iSheetOfPage_any p Y _ h1 (by omega) (by omega) (by omega)).mono ?_; rw [← HES.out, ← HED.out]; rintro e w' ⟨rfl, rfl⟩)
              rw [rounds_succ]
              go_wp2
              go_roundw
              case rel => exact ⟨d + 1, by omega, by go_num, by show Row _ _ _ (kc (cN p (2 * s + d + 1))); rw [HNX.out]; exact HR4.out, HB4.out⟩
              case measure => simp [intOf]; omega
            · have HB2 := Lib.hid (HB.out.setCell (p := ⟨g, X, none⟩) (Nat.le_refl _) (.int .i64 (cN p (2 * s + d) ((X : Nat) : Int) + 1)))
              have HRX := Lib.hid (kc_set (a := ((X : Nat) : Int)) (v := cN p (2 * s + d) ((X : Nat) : Int) + 1) HR.out (by omega) rfl)
              have c1 := HR.out.cell (i := X) (by omega)
              have f1 := HR.out.frozen X
              unfold kc at c1
              obtain ⟨u0, u1⟩ := HBD.out ((X : Nat) : Int)
              rw [Int.toNat_natCast] at HRX
              have HU : Hid (∀ q : Int, 0 ≤ cN p (2 * s + d) q + ind ((X : Nat) : Int) q ∧ cN p (2 * s + d) q + ind ((X : Nat) : Int) q ≤ 1000) := Lib.hid (fun q => by have := HBD.out q; unfold ind; split <;> omega)
              generalize hu : cN p (2 * s + d) ((X : Nat) : Int) = u at *
              clear hu
              go_upto_region 19 with (fail)
              generalize wi.setCell ⟨g, X, none⟩ (.int .i64 (u + 1)) = w2 at *
              clear c1 f1 u0 u1
              have HRY := Lib.hid (kc_set (a := ((0 : Nat) : Int)) (v := cN p (2 * s + d) ((0 : Nat) : Int) + ind ((X : Nat) : Int) ((0 : Nat) : Int) + 1) HRX.out (by omega) rfl)
              have HB3 := Lib.hid (HB2.out.setCell (p := ⟨g, 0, none⟩) (Nat.le_refl _) (.int .i64 (cN p (2 * s + d) ((0 : Nat) : Int) + ind ((X : Nat) : Int) ((0 : Nat) : Int) + 1)))
              have c2 := HRX.out.cell (i := 0) (by omega)
              have f2 := HRX.out.frozen 0
              unfold kc at c2
              obtain ⟨u0, u1⟩ := HU.out ((0 : Nat) : Int)
              rw [Int.toNat_natCast] at HRY
              simp only at c2
              generalize hu : cN p (2 * s + d) ((0 : Nat) : Int) + ind ((X : Nat) : Int) ((0 : Nat) : Int) = u2 at *
              clear hu
              have hsz2 : g < w2.heap.size := HRX.out.lt
              go_upto_region 20 with (fail)
              generalize w2.setCell ⟨g, 0, none⟩ (.int .i64 (u2 + 1)) = w3 at *
              clear c2 f2 u0 u1 hsz2
              have HB4 := Lib.hid (HB3.out.alloc (Nat.le_of_lt HRY.out.lt) (.cells #[.int .i64 ((X : Nat) : Int), .int .i64 0] 3 (0, 0)))
              have HR4 := Lib.hid (HRY.out.below ((Below.refl w3.heap.size w3).alloc (Nat.le_refl _) (.cells #[.int .i64 ((X : Nat) : Int), .int .i64 0] 3 (0, 0))) HRY.out.lt)
              have HQ : Hid (Row (w3.alloc (.cells #[.int .i64 ((X : Nat) : Int), .int .i64 0] 3 (0, 0))) w3.heap.size 2 (fun i => if i = 0 then .int .i64 ((X : Nat) : Int) else .int .i64 0)) := Lib.hid ((Row.of_new w3 #[.int .i64 ((X : Nat) : Int), .int .i64 0] 3).congr fun i hi => by
                have : i = 0 ∨ i = 1 := by simp at hi; omega
                rcases this with rfl | rfl <;> rfl)
              go_wp2
              generalize w3.alloc (.cells #[.int .i64 ((X : Nat) : Int), .int .i64 0] 3 (0, 0)) = W3 at *
              generalize w3.heap.size = k3 at *
              have d0 : W3.cell? ⟨k3, 0, none⟩ = some (.int .i64 ((X : Nat) : Int)) := HQ.out.cell (i := 0) (by omega)
              have d1 : W3.cell? ⟨k3, 1, none⟩ = some (.int .i64 0) := HQ.out.cell (i := 1) (by omega)
              refine wp_loop_rounds 3 ?_
              rw [rounds_succ]
              obtain ⟨es, ed⟩ := (HM.out ((X : Nat) : Int) (by omega) (by omega)).1 (.inl rfl)
              have HES := Lib.hid es
              have HED := Lib.hid ed
              clear es ed
              go_wp2_with (go_at_call 24; refine (iSheetOfPage_any p X _ h1 (by omega) (by omega) (by omega)).mono ?_; rw [← HES.out, ← HED.out]; rintro e w' ⟨rfl, rfl⟩)
              rw [rounds_succ]
              go_wp2
              rw [rounds_succ]
              go_wp2
              go_roundw
              case rel => exact ⟨d + 1, by omega, by go_num, by show Row _ _ _ (kc (cN p (2 * s + d + 1))); rw [HNX.out]; exact HR4.out, HB4.out⟩
              case measure => simp [intOf]; omega
            · have HB2 := Lib.hid (HB.out.setCell (p := ⟨g, X, none⟩) (Nat.le_refl _) (.int .i64 (cN p (2 * s + d) ((X : Nat) : Int) + 1)))
              have HRX := Lib.hid (kc_set (a := ((X : Nat) : Int)) (v := cN p (2 * s + d) ((X : Nat) : Int) + 1) HR.out (by omega) rfl)
              have c1 := HR.out.cell (i := X) (by omega)
              have f1 := HR.out.frozen X
              unfold kc at c1
              obtain ⟨u0, u1⟩ := HBD.out ((X : Nat) : Int)
              rw [Int.toNat_natCast] at HRX
              have HU : Hid (∀ q : Int, 0 ≤ cN p (2 * s + d) q + ind ((X : Nat) : Int) q ∧ cN p (2 * s + d) q + ind ((X : Nat) : Int) q ≤ 1000) := Lib.hid (fun q => by have := HBD.out q; unfold ind; split <;> omega)
              generalize hu : cN p (2 * s + d) ((X : Nat) : Int) = u at *
              clear hu
              go_upto_region 19 with (fail)
              generalize wi.setCell ⟨g, X, none⟩ (.int .i64 (u + 1)) = w2 at *
              clear c1 f1 u0 u1
              have HRY := Lib.hid (kc_set (a := ((Y : Nat) : Int)) (v := cN p (2 * s + d) ((Y : Nat) : Int) + ind ((X : Nat) : Int) ((Y : Nat) : Int) + 1) HRX.out (by omega) rfl)
              have HB3 := Lib.hid (HB2.out.setCell (p := ⟨g, Y, none⟩) (Nat.le_refl _) (.int .i64 (cN p (2 * s + d) ((Y : Nat) : Int) + ind ((X : Nat) : Int) ((Y : Nat) : Int) + 1)))
              have c2 := HRX.out.cell (i := Y) (by omega)
              have f2 := HRX.out.frozen Y
              unfold kc at c2
              obtain ⟨u0, u1⟩ := HU.out ((Y : Nat) : Int)
              rw [Int.toNat_natCast] at HRY
              simp only at c2
              generalize hu : cN p (2 * s + d) ((Y : Nat) : Int) + ind ((X : Nat) : Int) ((Y : Nat) : Int) = u2 at *
              clear hu
              have hsz2 : g < w2.heap.size := HRX.out.lt
              go_upto_region 20 with (fail)
              generalize w2.setCell ⟨g, Y, none⟩ (.int .i64 (u2 + 1)) = w3 at *
              clear c2 f2 u0 u1 hsz2
              have HB4 := Lib.hid (HB3.out.alloc (Nat.le_of_lt HRY.out.lt) (.cells #[.int .i64 ((X : Nat) : Int), .int .i64 ((Y : Nat) : Int)] 3 (0, 0)))
              have HR4 := Lib.hid (HRY.out.below ((Below.refl w3.heap.size w3).alloc (Nat.le_refl _) (.cells #[.int .i64 ((X : Nat) : Int), .int .i64 ((Y : Nat) : Int)] 3 (0, 0))) HRY.out.lt)
              have HQ : Hid (Row (w3.alloc (.cells #[.int .i64 ((X : Nat) : Int), .int .i64 ((Y : Nat) : Int)] 3 (0, 0))) w3.heap.size 2 (fun i => if i = 0 then .int .i64 ((X : Nat) : Int) else .int .i64 ((Y : Nat) : Int))) := Lib.hid ((Row.of_new w3 #[.int .i64 ((X : Nat) : Int), .int .i64 ((Y : Nat) : Int)] 3).congr fun i hi => by
                have : i = 0 ∨ i = 1 := by simp at hi; omega
                rcases this with rfl | rfl <;> rfl)
              go_wp2
              generalize w3.alloc (.cells #[.int .i64 ((X : Nat) : Int), .int .i64 ((Y : Nat) : Int)] 3 (0, 0)) = W3 at *
              generalize w3.heap.size = k3 at *
              have d0 : W3.cell? ⟨k3, 0, none⟩ = some (.int .i64 ((X : Nat) : Int)) := HQ.out.cell (i := 0) (by omega)
              have d1 : W3.cell? ⟨k3, 1, none⟩ = some (.int .i64 ((Y : Nat) : Int)) := HQ.out.cell (i := 1) (by omega)
              refine wp_loop_rounds 3 ?_
              rw [rounds_succ]
              obtain ⟨es, ed⟩ := (HM.out ((X : Nat) : Int) (by omega) (by omega)).1 (.inl rfl)
              have HES := Lib.hid es
              have HED := Lib.hid ed
              clear es ed
              go_wp2_with (go_at_call 24; refine (iSheetOfPage_any p X _ h1 (by omega) (by omega) (by omega)).mono ?_; rw [← HES.out, ← HED.out]; rintro e w' ⟨rfl, rfl⟩)
              rw [rounds_succ]
              obtain ⟨es, ed⟩ := (HM.out ((Y : Nat) : Int) (by omega) (by omega)).1 (.inr rfl)
              have HES := Lib.hid es
              have HED := Lib.hid ed
              clear es ed
              go_wp2_with (go_at_call 24; refine (iSheetOfPage_any p Y _ h1 (by omega) (by omega) (by omega)).mono ?_; rw [← HES.out, ← HED.out]; rintro e w' ⟨rfl, rfl⟩)
              rw [rounds_succ]
              go_wp2
              go_roundw
              case rel => exact ⟨d + 1, by omega, by go_num, by show Row _ _ _ (kc (cN p (2 * s + d + 1))); rw [HNX.out]; exact HR4.out, HB4.out⟩
              case measure => simp [intOf]; omega
          · have hd2 : d = 2 := by omega
            subst hd2
            go_wp2
            go_roundw
            case rel => exact ⟨s + 1, by omega, by go_num, HR.out, HB.out⟩
            case measure => simp [intOf]; omega
      · have hsn : (s : Int) = n := by omega
        have H2 : Hid (((2 * s : Nat) : Int) = 2 * shq p) := Lib.hid (by rw [HN.out]; push_cast; omega)
        have HONE : Hid (∀ q : Int, 1 ≤ q → q ≤ p → cN p (2 * s) q = 1) := Lib.hid (fun q a b => cN_one h1 (by omega) a b _ H2.out)
        have HBL : Hid (cN p (2 * s) 0 = b) := Lib.hid (by rw [cN_blank h1 (by omega) _ H2.out, HN.out, HBK.out])
        go_wp2
        go_loop [15] (fun i => ∃ q : Nat, 1 ≤ q ∧ q ≤ p + 1 ∧ i = .int .i64 q) (fun i => p + 1 - (intOf i).toNat)
        case atStart => exact ⟨1, by omega, by omega, rfl⟩
        case round =>
          obtain ⟨q, hq1, hq2, rfl⟩ := hrel
          by_cases hqp : q ≤ p
          · have c1 := HR.out.cell (i := q) (by omega)
            unfold kc at c1
            rw [HONE.out q (by omega) (by omega)] at c1
            obtain ⟨o0, o1⟩ := opP_bd (P := p) (p := q) (by omega) (by omega)
            by_cases ho : 0 < opP p q
            · have HOB := Lib.hid (opP_back (P := p) (p := q) (by omega) (by omega) ho)
              have HO : Hid (opP p q = opP p q) := Lib.hid rfl
              generalize hoo : opP p q = o at *
              have HOO := Lib.hid hoo
              clear hoo
              have hne : ((q : Int) != (q : Int)) = false := by simp
              go_upto_region 32 with (go_at_call 20; refine (iOpensWith_any p q _ h1 (by omega) (by omega) (by omega)).mono ?_; rw [HOO.out]; rintro e w' ⟨rfl, rfl⟩)
              go_wp2_with (go_at_call 20; refine (iOpensWith_any p o _ h1 (by omega) (by omega) (by omega)).mono ?_; rw [HOB.out]; rintro e w' ⟨rfl, rfl⟩)
              go_round
              case rel => exact ⟨q + 1, by omega, by omega, by go_num⟩
              case measure => simp [intOf]; omega
            · generalize hoo : opP p q = o at *
              have HOO := Lib.hid hoo
              clear hoo
              go_wp2_with (go_at_call 20; (refine (iOpensWith_any p q _ h1 (by omega) (by omega) (by omega)).mono ?_; rw [HOO.out]; rintro e w' ⟨rfl, rfl⟩))
              go_round
              case rel => exact ⟨q + 1, by omega, by omega, by go_num⟩
              case measure => simp [intOf]; omega
          · have c1 : wo.cell? ⟨g, 0, none⟩ = some (.int .i64 b) := by
              have := HR.out.cell (i := 0) (by omega)
              unfold kc at this
              rw [show ((0 : Nat) : Int) = 0 from rfl, HBL.out] at this
              exact this
            have hop : opP p 1 = 0 := by unfold opP; rfl
            have HOP := Lib.hid hop
            have hbb : (b == b) = true := by simp
            clear hop
            go_wp2_with (go_at_call 20; (refine (iOpensWith_any p 1 _ h1 (by omega) (by omega) (by omega)).mono ?_; rw [HOP.out]; rintro e w' ⟨rfl, rfl⟩))
            go_ret
            refine ⟨rfl, ?_⟩
            rw [hg]
            exact HB.out
  · have hb : decide (1048576 < (l0 : Int)) = true := decide_eq_true (by omega)
    go_enter Try.func8, Try.ntmps8
    go_wp2_with fail
    refine (big_any a0 l0 c0 _ hmx).mono ?_
    rw [hb]
    rintro e w1 ⟨rfl, rfl⟩
    go_wp2
    go_ret
    exact ⟨rfl, Below.refl _ _⟩

set_option maxRecDepth 100000 in
theorem lifted (os : Os) (started : os.Started) (H : Type) (enc : TypeId × Value → H) :
    ReturnsInHanded {} Try.checked os 8 .any (Rows.fnPagesSpec.pre6 enc Try.prog Try.f8 Rows.fnPagesRow.domain false) (Rows.fnPagesSpec.post enc Try.prog Try.f8 false true false false) := by
  refine returnsInHanded_of_change (C := Try.checked) own started (by kernel_rfl) Try.func8
    (ChangeSpec.witness6 (enc := enc) (C := Try.checked) false ⟨#[], #[.slice none 0 0], []⟩ 8 (by kernel_rfl) (by kernel_rfl) (by kernel_rfl) (by kernel_rfl)) ?_
  intro W base args ds gs before hval0 hW hcnd _
  have hval : ∀ (j : Nat) t v, Try.f8.params[j]? = some t → args[j]? = some v → Value.okWide Try.prog W .any base t v := hval0
  have hW' := hW
  obtain ⟨p, q, hA0, hV, rfl, hfz, hnd⟩ := hW
  have hA : DataW.TrodAll enc Try.prog W 0 (fun _ => true) true Try.f8.params.toList args.toList ds p := hA0
  rw [Try.params8] at hA hval
  obtain ⟨v0, vs0, d0, ds0, p0, q0, hargs, rfl, rfl, h0, r0⟩ := trodAll_cons hA
  obtain ⟨rfl, rfl, rfl⟩ := trodAll_nil r0
  obtain rfl : args = #[v0] := by cases args; simp_all
  obtain ⟨rfl, rfl⟩ := trodVars_none hV
  have k0 := h0
  have lt0 : ∀ x ∈ p0, x.block < W.heap.size := by obtain ⟨m, hm⟩ := k0; exact DataW.trod_lt m _ _ _ hm
  obtain ⟨a0, l0, c0, z0, rfl, w0⟩ := open_bytes (hval 0 30 v0 rfl rfl) h0
  clear hA0 hval0
  refine (walk W a0 l0 c0 z0 w0).mono fun e W' ⟨he, bel⟩ => ?_
  subst he
  exact ⟨_, rfl, _, _, _, [], _, [], hW', trodAll_mk1 (shut_bool Try.underlying4 _), (trodAll_cons_mk (Below.trod laidOut (by kernel_rfl) (of_decide_eq_true (by kernel_rfl)) k0 bel lt0) trodAll_mk0), rfl, bel.frame _, fun h => by cases h⟩

theorem over : Rows.fnPagesRow.holds Try.pinned (OpenSpec.ofChange Rows.fnPagesSpec) :=
  OpenClaim.holds_of_wide 8 Try.f8 rfl rfl rfl rfl rfl rfl rfl ⟨rfl, rfl, rfl, rfl, rfl⟩ rfl rfl rfl rfl rfl (by kernel_rfl) Try.func8 (by kernel_rfl)
    (of_decide_eq_true (by kernel_rfl)) (by unfold Func.isWrapper; first | (rw [if_pos (by decide +kernel)]; kernel_rfl) | (rw [if_neg (by decide +kernel)]; exact ⟨rfl, rfl⟩))
    (fun os started H enc _ => lifted os started H enc)

/-- The statement. -/
theorem proved : Rows.FnPagesSaid :=
  over
#print axioms proved
end Go.Proofs.Ytfekgafcbohmeaa.fnPages
