/-
  Contracts of TotalCut at any list of the call's own, and of CutLength in the reference.
  By an AI agent.
-/
import Derived.Test.YtlplfpoggifadaaCutsI
import Derived.Test.YtlplfpoggifadaaKniL
namespace Go.Proofs.Ytlplfpoggifadaa
open Go.ChangeShapes Go.WideShapes Go.ChangeAt Go.RowKit Go.Joins Go.Deep
set_option maxRecDepth 100000
set_option linter.unusedVariables false

theorem areCuts_nil (a : Option Addr) (c : Nat) (most : Int) (w : World) (h : 0 ≤ most) :
    Calls Try.prog 48 #[.slice a 0 c, .int .i64 most] w fun e w' => e = .returned (.bool true) ∧ Below w.heap.size w w' := by
  have HB := Lib.hid (Below.box w (.cells #[.int .i64 0, .int .i64 0, .int .i64 0] 51 (0, 0)))
  go_enter Try.func48, Try.ntmps48
  go_wp2
  refine wp_loop_rounds 1 ?_
  rw [rounds_succ]
  go_wp2
  go_ret
  exact ⟨rfl, by first | exact HB.out | exact Below.refl _ _⟩
theorem iTotalCut_sl (a : Option Addr) (c : Nat) (ps : List DCut) (w : World) (hm : ps.length ≤ 1048576) (hR : SlR w a (ps.length * 3) (cc ps)) :
    Calls Try.prog 30 #[.slice a ps.length c] w fun e w' => e = .returned (.int .i64 (cutOf ps)) ∧ Below w.heap.size w w' := by
  by_cases h0 : ps = []
  · subst h0
    clear hR hm
    have HV : Hid (cutOf [] = 0) := Lib.hid (by decide)
    go_enter Try.func30, Try.ntmps30
    go_wp2_with fail
    refine (areCuts_nil a c _ _ (by simp)).mono ?_
    rintro e w1 ⟨rfl, hb⟩
    have HB := Lib.hid hb
    clear hb
    have HB2 := Lib.hid (HB.out.trans ((Below.box w1 (.cells #[.int .i64 0, .int .i64 0, .int .i64 0] 51 (0, 0))).mono HB.out.size))
    go_wp2
    refine wp_loop_rounds 1 ?_
    rw [rounds_succ]
    go_wp2
    go_ret
    exact ⟨ret_int HV.out.symm, by first | exact HB.out | exact HB2.out⟩
  · have hl : 0 < ps.length := List.length_pos_iff.2 h0
    obtain ⟨g, rfl, hr⟩ := hR.row (by omega)
    exact iTotalCut_any g ps.length c ps w rfl hm hr
set_option maxHeartbeats 2000000 in
theorem sCutLength_any (d f : Int) (a : Option Addr) (n c N : Nat) (ss : List ByteArray) (w : World) (hC : Cd d f n N ss) (hR : SlR w a n (sc ss)) :
    Calls Try.prog 31 #[.agg #[.int .i64 d, .int .i64 f, .slice a n c]] w fun e w' => e = .returned (.int .i64 (clenN ss N (n - 1))) ∧ Below w.heap.size w w' := by
  have hb0 := Below.box w (.cells #[.int .i64 d, .int .i64 f, .slice a n c] 28 (0, 0))
  have HB0 := Lib.hid hb0
  have HR := Lib.hid (hR.below hb0)
  have HP := Lib.hid (Row.new3 w (.int .i64 d) (.int .i64 f) (.slice a n c) 28)
  have HC := Lib.hid hC
  obtain ⟨_, hn1, hn10, _, hN16⟩ := hC.bds
  have hmr := hC.room
  have hle := hC.len
  clear hR hb0 hC
  go_enter Try.func31, Try.ntmps31
  go_wp2_with fail
  refine (sCardOk_any _ _ _ _ _ _ _ HC.out.len HC.out.room HR.out).mono ?_
  rw [HC.out.ok]
  rintro e w1 ⟨rfl, hb⟩
  have HR1 := Lib.hid (HR.out.below hb)
  have HP1 := Lib.hid (HP.out.below hb HP.out.lt)
  have HB1 := Lib.hid (HB0.out.trans (hb.mono HB0.out.size))
  clear hb HR HP HB0 hmr hle
  go_wp2_with fail
  go_loopw [3, 4] (fun v i wr => ∃ k : Nat, k ≤ n - 1 ∧ i = .int .i64 ((k + 1 : Nat) : Int) ∧ v = .int .i64 (clenN ss N k) ∧ Row wr w.heap.size 3 (tri (.int .i64 d) (.int .i64 f) (.slice a n c)) ∧ SlR wr a n (sc ss) ∧ Below w.heap.size w wr) (fun _ i _ => n - (intOf i).toNat)
  case atStart => exact ⟨0, Nat.zero_le _, rfl, rfl, HP1.out, HR1.out, HB1.out⟩
  case round =>
    clear HP1 HR1 HB1
    obtain ⟨k, hk, rfl, rfl, hp, hr, hb⟩ := hrel
    have HP := Lib.hid hp
    have HR := Lib.hid hr
    have HB := Lib.hid hb
    obtain ⟨⟨p0, p1, p2⟩, _⟩ := hp.tri3
    clear hp hr hb
    by_cases hlt : k + 1 < n
    · obtain ⟨gS, rfl, hrS⟩ := HR.out.row (by omega)
      have s0 := hrS.cell (i := k) (by omega)
      have s1 := hrS.cell (i := k + 1) hlt
      have z0 : (sc ss k) = .string (rowS ss k) := rfl
      have z1 : (sc ss (k + 1)) = .string (rowS ss (k + 1)) := rfl
      rw [z0] at s0
      rw [z1] at s1
      have HT := Lib.hid (HC.out.two hlt)
      have HN : Hid (clenN ss N (k + 1) = clenN ss N k + ((dfL (rowS ss k) (rowS ss (k + 1)) N).length : Nat)) := Lib.hid rfl
      have hdl := dfL_len (rowS ss k) (rowS ss (k + 1)) N
      obtain ⟨cb0, cb1⟩ := clen_bd ss N k
      have cb2 : (k : Int) * (N : Int) ≤ 160 := by
        rw [← Int.natCast_mul]
        have : k * N ≤ 10 * 16 := Nat.mul_le_mul (by omega) hN16
        omega
      have cb3 : clenN ss N k ≤ 160 := by omega
      clear hrS z0 z1 cb1 cb2
      generalize clenN ss N k = cl at *
      generalize rowS ss k = sA at *
      generalize rowS ss (k + 1) = sB at *
      obtain ⟨m, hmm⟩ : ∃ m, (dfL sA sB N).length = m := ⟨_, rfl⟩
      rw [hmm] at hdl HN
      have HM := Lib.hid hmm
      have hm16 : m ≤ 16 := by omega
      have i0 : (0 : Int) ≤ (k : Int) := Int.natCast_nonneg _
      have i1 : (k : Int) < (n : Int) := by omega
      have i2 : ((k + 1 : Nat) : Int) < (n : Int) := by omega
      have i3 : (0 : Int) ≤ ((k + 1 : Nat) : Int) := Int.natCast_nonneg _
      have i4 : IntKind.i64.wrap (((k + 1 : Nat) : Int) - 1) = (k : Int) := by rw [show ((k + 1 : Nat) : Int) - 1 = (k : Int) by omega]; exact IntWalk.i64_in _ (by omega)
      have i4' : wrap64 (((k + 1 : Nat) : Int) - 1) = (k : Int) := by rw [show ((k + 1 : Nat) : Int) - 1 = (k : Int) by omega]; exact IntWalk.wrap64_in _ (by omega)
      have i5 : IntKind.i64.wrap (cl + (m : Int)) = cl + (m : Int) := IntWalk.i64_in _ (by omega)
      clear hmm
      generalize hkk : k + 1 = k2 at *
      have HKK := Lib.hid hkk
      clear hkk
      go_wp2_with fail
      have hS : Hid ((wr.drew.cell? ⟨w.heap.size, 2, none⟩ = some (.slice (some ⟨gS, 0, none⟩) n c) ∧ wr.drew.cell? ⟨gS, k, none⟩ = some (.string sA) ∧ wr.drew.cell? ⟨gS, k2, none⟩ = some (.string sB)) ∧ Hid (Below wr.heap.size wr wr.drew)) := Lib.hid ⟨⟨p2, s0, s1⟩, Lib.hid ((Below.refl _ _).drew)⟩
      have HCL : Hid (∀ w', Below wr.heap.size wr w' → (w'.cell? ⟨w.heap.size, 2, none⟩ = some (.slice (some ⟨gS, 0, none⟩) n c) ∧ w'.cell? ⟨gS, k, none⟩ = some (.string sA) ∧ w'.cell? ⟨gS, k2, none⟩ = some (.string sB))) := Lib.hid (fun w' hb => ⟨(hb.cell (p := ⟨w.heap.size, 2, none⟩) (World.block_lt_of_cell? _ _ p2)).trans p2, (hb.cell (p := ⟨gS, k, none⟩) (World.block_lt_of_cell? _ _ s0)).trans s0, (hb.cell (p := ⟨gS, k2, none⟩) (World.block_lt_of_cell? _ _ s1)).trans s1⟩)
      go_region_held3 (fun w' => (w'.cell? ⟨w.heap.size, 2, none⟩ = some (.slice (some ⟨gS, 0, none⟩) n c) ∧ w'.cell? ⟨gS, k, none⟩ = some (.string sA) ∧ w'.cell? ⟨gS, k2, none⟩ = some (.string sB)) ∧ Hid (Below wr.heap.size wr w'))
        (first | exact hS.out | exact hS2.out | (go_keep; done))
        ((go_at_call 59; refine (sCutsBetween_any sA sB N _ HT.out).mono ?_; rintro e w3 ⟨aR, cR, rfl, _, _, hb⟩; rw [HM.out]; have hb' : Below wr.heap.size wr w3 := Below.trans (Below.refl _ _).drew hb; have hS2 := Lib.hid (⟨HCL.out _ hb', Lib.hid hb'⟩ : (w3.cell? ⟨w.heap.size, 2, none⟩ = some (.slice (some ⟨gS, 0, none⟩) n c) ∧ w3.cell? ⟨gS, k, none⟩ = some (.string sA) ∧ w3.cell? ⟨gS, k2, none⟩ = some (.string sB)) ∧ Hid (Below wr.heap.size wr w3)); clear hb hb'))
      all_goals
        have hb' := hS2.out.2.out
        have HPF := Lib.hid (HP.out.below hb' HP.out.lt)
        have HRF := Lib.hid (HR.out.below hb')
        have HBF := Lib.hid (HB.out.trans (hb'.mono HB.out.size))
        clear hS hS2 HCL hb' p0 p1 p2 s0 s1 i4 i4' i5 HP HR HB
        go_wp2
        go_roundw
        case rel => exact ⟨k2, by omega, by have := HKK.out; first | (congr 1; omega) | (congr 1; done) | go_num, by rw [HN.out], HPF.out, HRF.out, HBF.out⟩
        case measure => have := HKK.out; simp [intOf]; omega
    · have hk' : n - 1 = k := by omega
      have i1 : ¬ ((k + 1 : Nat) : Int) < (n : Int) := by omega
      rw [hk']
      go_wp2
      go_ret
      exact ⟨rfl, HB.out⟩
end Go.Proofs.Ytlplfpoggifadaa
