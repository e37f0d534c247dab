/-
  The Go function laws.FnStories returns true for every input and leaves its arguments as they were; no condition.
  By an AI agent.
-/
import Derived.Test.YtjnjlpljakkakaaRows
import Derived.WalkKit
import Derived.ProofKit
import Derived.OpenShut
import Derived.Carry
import Derived.ChangeOld
import Derived.Below
import Derived.Lib.SmallJoins
import Derived.Deep.Slices
import Derived.Deep.Fields
import Derived.Lib.Hide
import Derived.Test.YtjnjlpljakkakaaDrawS
import Derived.Test.YtjnjlpljakkakaaStoL
import Derived.Test.YtjnjlpljakkakaaFrom
import Derived.Test.YtjnjlpljakkakaaLost
import Derived.Test.YtjnjlpljakkakaaEndless
import Derived.Test.YtjnjlpljakkakaaTaleI
import Derived.Test.YtjnjlpljakkakaaTalesI
import Derived.Test.YtjnjlpljakkakaaStoryOk
import Derived.Test.YtjnjlpljakkakaaHas
import Derived.Test.YtjnjlpljakkakaaAt
import Derived.Test.YtjnjlpljakkakaaTail
import Derived.Deep.DeepCutAuto
namespace Go.Proofs.Ytjnjlpljakkakaa.fnStories
open Go.Proofs.Ytjnjlpljakkakaa Go.ChangeShapes Go.WideShapes Go.ChangeAt Go.RowKit Go.Joins Go.Deep

set_option linter.unusedVariables false
set_option maxRecDepth 100000

theorem own : ownKnob Try.prog.godebug = none := by kernel_rfl
theorem laidOut : laidOutB Try.prog = true := by kernel_rfl

/-- What the walk carries: the story's variable at PC, its pages; the world at the start is w. -/
structure StoW (w : World) (PC n cS : Nat) (aS : Option Addr) (L : Rows) (wx : World) : Prop where
  p : Row wx PC 1 (fun _ => .slice aS n cS)
  r : RSt wx aS n L
  b : Below w.heap.size w wx
theorem StoW.below {w wx wy : World} {PC n cS : Nat} {aS : Option Addr} {L : Rows} (h : StoW w PC n cS aS L wx) (hb : Below wx.heap.size wx wy) : StoW w PC n cS aS L wy := ⟨h.p.below hb h.p.lt, h.r.below hb, h.b.trans (hb.mono h.b.size)⟩
theorem met_row {n : Nat} {L : Rows} (hs : storyOk n L) {k : Nat} (hk : k < n) (hm : metB L k = true) {q : Nat} (hq : q < lenN L k) : (rfR n L 0).contains ((rowN L k).getD q 0) = true := by
  obtain ⟨he, e⟩ := edge_nx hs hk hq
  rw [e, rf_has hs (edge_lt hs hk he)]
  exact met_next hm he
theorem rows_small {n : Nat} {L : Rows} (hs : storyOk n L) (i : Nat) (hi : i < n) : lenN L i ≤ 1048576 := by
  have : lenN L i ≤ 4 := (hs.2 i hi).1
  omega
/-- A tale in the walk: a row that lies in the world w. -/
structure TaleV (n : Nat) (L : Rows) (w : World) (aW : Option Addr) (lW : Nat) (W : List Int) : Prop where
  len : W.length = lW
  bd : lW ≤ 16
  tale : isTale n L W
  row : SlR w aW lW (ic W)
/-- The literal story of three pages, built at the end. -/
def threeW (w : World) : World := (((w.alloc (.cells #[.int .i64 1, .int .i64 2] 3 (0, 0))).alloc (.cells #[] 3 (0, 0))).alloc (.cells #[] 3 (0, 0))).alloc (.cells #[.slice (some ⟨w.heap.size, 0, none⟩) 2 2, .slice (some ⟨w.heap.size + 1, 0, none⟩) 0 0, .slice (some ⟨w.heap.size + 2, 0, none⟩) 0 0] 31 (0, 0))
theorem three_below (w : World) : Below w.heap.size w (threeW w) := (((Below.box w _).alloc (by simp) _).alloc (by simp; omega) _).alloc (by simp; omega) _
theorem three_RSt (w : World) : RSt (threeW w) (some ⟨w.heap.size + 3, 0, none⟩) 3 three := by
  have h1 := Row.of_new w #[.int .i64 1, .int .i64 2] 3
  have h2 : Row (threeW w) w.heap.size 2 (ic [1, 2]) := (((h1.alloc _).alloc _).alloc _).congr (fun i hi => by
    have : i = 0 ∨ i = 1 := (by simp at hi; omega)
    rcases this with rfl | rfl <;> rfl)
  have h3 := Row.of_new (((w.alloc (.cells #[.int .i64 1, .int .i64 2] 3 (0, 0))).alloc (.cells #[] 3 (0, 0))).alloc (.cells #[] 3 (0, 0))) #[.slice (some ⟨w.heap.size, 0, none⟩) 2 2, .slice (some ⟨w.heap.size + 1, 0, none⟩) 0 0, .slice (some ⟨w.heap.size + 2, 0, none⟩) 0 0] 31
  have hz : (((w.alloc (.cells #[.int .i64 1, .int .i64 2] 3 (0, 0))).alloc (.cells #[] 3 (0, 0))).alloc (.cells #[] 3 (0, 0))).heap.size = w.heap.size + 3 := by simp
  rw [hz] at h3
  refine ⟨fun i => some ⟨w.heap.size + i, 0, none⟩, fun i => lenN three i, .of_row (h3.congr (fun i hi => ?_)), fun i hi => ⟨Nat.le_refl _, ?_⟩⟩
  · have : i = 0 ∨ i = 1 ∨ i = 2 := (by simp at hi; omega)
    rcases this with rfl | rfl | rfl <;> rfl
  · have : i = 0 ∨ i = 1 ∨ i = 2 := by omega
    rcases this with rfl | rfl | rfl
    · exact .of_row h2
    · exact .inl rfl
    · exact .inl rfl

set_option maxHeartbeats 3200000 in
theorem walk (w : World) (a0 : Option Addr) (l0 c0 : Nat) (z0 : List Int) (w0 : IsRow .u8 w a0 l0 c0 z0) :
    Calls Try.prog 10 #[.slice a0 l0 c0] w fun e w' => e = .returned (.bool true) ∧ Below w.heap.size w w' := by
  obtain ⟨hmx, _⟩ := w0.cells
  obtain ⟨_, hby⟩ := Bytes.of w0
  have HBY := Lib.hid hby
  clear hby w0
  by_cases hbig : l0 ≤ 1048576
  · have hb : decide (1048576 < (l0 : Int)) = false := decide_eq_false (by omega)
    go_enter Try.func10, Try.ntmps10
    go_wp2_with fail
    refine (big_any a0 l0 c0 _ hmx).mono ?_
    rw [hb]
    rintro e w1 ⟨rfl, rfl⟩
    clear hb
    go_wp2_with fail
    refine (drawStory_any a0 l0 c0 _ hbig HBY.out).mono ?_
    rintro e w1 ⟨n, aS, cS, L, rfl, hl, hok, hr, hb⟩
    have hb2 := Below.box w1 (.cells #[.slice aS n cS] 27 (0, 0))
    have HS := Lib.hid (StoW.mk (((Row.of_new w1 #[.slice aS n cS] 27).congr (fun i hi => by have : i = 0 := (by simp at hi; omega); subst this; rfl) : Row _ w1.heap.size 1 (fun _ => .slice aS n cS))) (hr.below hb2) (hb.trans (hb2.mono hb.size)) : StoW w w1.heap.size n cS aS L _)
    have HOK := Lib.hid hok
    have HL := Lib.hid hl
    have HM := Lib.hid (rows_small hok)
    obtain ⟨n1, n16⟩ := hok.1
    have c0 := HS.out.p.cell (i := 0) Nat.one_pos
    clear hok hr hb hb2 hl
    go_wp2_with fail
    generalize w1.alloc (.cells #[.slice aS n cS] 27 (0, 0)) = w2 at *
    generalize w1.heap.size = PC at *
    refine (iReachedFrom_any aS n cS 0 L _ (by omega) HM.out HS.out.r).mono ?_
    have hRm : ∀ k, k < n → (rfR n L 0).contains (k : Int) = metB L k := fun k hk => rf_has HOK.out hk
    have hRn : ∀ k, k < n → metB L k = true → ∀ q, q < lenN L k → (rfR n L 0).contains ((rowN L k).getD q 0) = true := fun k hk hm q hq => met_row HOK.out hk hm hq
    have hR16 := rfR_len n L 0
    generalize rfR n L 0 = R at *
    have HRM := Lib.hid hRm
    have HRN := Lib.hid hRn
    clear hRm hRn
    rintro e w3 ⟨aR, cR, rfl, hx, _, hb⟩
    generalize hRl : R.length = lR at *
    have HRL := Lib.hid hRl
    have HRS := Lib.hid hx
    replace HS := Lib.hid (HS.out.below hb)
    clear hx hb hRl c0
    have c0 := HS.out.p.cell (i := 0) Nat.one_pos
    go_wp2_with fail
    refine (iLostPages_any aS n cS L _ (by omega) HM.out HS.out.r).mono ?_
    have hLm : ∀ k, k < n → (lpR n L).contains (k : Int) = !metB L k := fun k hk => lp_has HOK.out hk
    have hL16 := lpR_len n L
    generalize lpR n L = O at *
    have HOM := Lib.hid hLm
    clear hLm
    rintro e w4 ⟨aO, cO, rfl, hx, _, hb⟩
    generalize hOl : O.length = lO at *
    have HOL := Lib.hid hOl
    have HOS := Lib.hid hx
    replace HS := Lib.hid (HS.out.below hb)
    replace HRS := Lib.hid (HRS.out.below hb)
    clear hx hb hOl c0
    go_wp2_with fail
    go_loop [7] (fun i => ∃ k : Nat, k ≤ n ∧ i = .int .i64 k) (fun i => n - (intOf i).toNat)
    case atStart => exact ⟨0, Nat.zero_le _, rfl⟩
    case round =>
      obtain ⟨k, hk, rfl⟩ := hrel
      by_cases hlt : k < n
      · as_aux_lemma =>
        obtain ⟨g, α, C, hg, lg, c1, _, s1⟩ := HS.out.r.at hlt
        have c0 := HS.out.p.cell (i := 0) Nat.one_pos
        rw [hg] at c0
        clear hg
        have S1 := Lib.hid s1
        have hm4 := HM.out k hlt
        have HNX := Lib.hid (HRN.out k hlt)
        have HMK := Lib.hid (HRM.out k hlt)
        have HOK2 := Lib.hid (HOM.out k hlt)
        clear s1
        generalize lenN L k = m at *
        generalize metB L k = mb at *
        have i0 : (0 : Int) ≤ (k : Int) := Int.natCast_nonneg _
        have i1 : (k : Int) < (n : Int) := by omega
        have e1 : (mb == !mb) = false := by cases mb <;> rfl
        go_wp2_with fail
        refine (has_any aR lR cR R k _ HRL.out (by omega) HRS.out mb HMK.out).mono ?_
        rintro e w5 ⟨rfl, rfl⟩
        go_wp2_with fail
        refine (has_any aO lO cO O k _ HOL.out (by omega) HOS.out (!mb) HOK2.out).mono ?_
        rintro e w5 ⟨rfl, rfl⟩
        go_wp2_with fail
        go_loop [8] (fun i => ∃ q : Nat, q ≤ m ∧ i = .int .i64 q) (fun i => m - (intOf i).toNat)
        case atStart => exact ⟨0, Nat.zero_le _, rfl⟩
        case round =>
          obtain ⟨q, hq, rfl⟩ := hrel
          clear e1
          by_cases hlq : q < m
          · obtain ⟨g3, rfl, hr3⟩ := S1.out.row (by omega)
            have c2 := hr3.cell hlq
            unfold ic at c2
            clear hr3
            have HV := Lib.hid (fun h => HNX.out h q hlq)
            generalize (rowN L k).getD q 0 = v at *
            have j0 : (0 : Int) ≤ (q : Int) := Int.natCast_nonneg _
            have j1 : (q : Int) < (m : Int) := by omega
            go_wp2_with fail
            refine (has_any aR lR cR R k _ HRL.out (by omega) HRS.out mb HMK.out).mono ?_
            rintro e w5 ⟨rfl, rfl⟩
            cases mb
            · go_wp2_with fail
              go_round
              case rel => ((try refine ⟨trivial, ?_⟩); (repeat apply Exists.intro); exact ⟨⟨q + 1, by omega, by go_num⟩, rfl⟩)
              case measure => simp [intOf]; omega
            · go_wp2_with fail
              refine (has_any aR lR cR R v _ HRL.out (by omega) HRS.out true (HV.out (by first | rfl | trivial))).mono ?_
              rintro e w5 ⟨rfl, rfl⟩
              go_wp2_with fail
              go_round
              case rel => ((try refine ⟨trivial, ?_⟩); (repeat apply Exists.intro); exact ⟨⟨q + 1, by omega, by go_num⟩, rfl⟩)
              case measure => simp [intOf]; omega
          · have j1 : ¬ ((q : Int) < (m : Int)) := by omega
            go_wp2_with fail
            go_round
            case rel => exact ⟨k + 1, by omega, by go_num⟩
            case measure => simp [intOf]; omega
      · have i1 : ¬ ((k : Int) < (n : Int)) := by omega
        clear HOM HOS HOL HRN
        have c0 := HS.out.p.cell (i := 0) Nat.one_pos
        go_wp2_with fail
        refine (iIsEndless_any aS n cS L _ (by omega) HM.out HS.out.r).mono ?_
        have hct := ct_law HOK.out
        obtain ⟨ht1, ht2, ht3, ht4, ht5, ht6⟩ := tale_law HOK.out
        have h16 := tlR_len n L true
        have h16' := tlR_len n L false
        have HEB : ∀ w : World, RSt w aS n L → Calls Try.prog 16 #[.agg #[.slice aS n cS]] w fun e w' => e = .returned (.bool (endB n L)) ∧ Below w.heap.size w w' := fun w h => sIsEndless_any aS n cS L w (by omega) HM.out h
        replace HEB := Lib.hid HEB
        generalize endB n L = E at *
        rintro e w5 ⟨rfl, hb⟩
        replace HS := Lib.hid (HS.out.below hb)
        replace HRS := Lib.hid (HRS.out.below hb)
        clear hb c0
        have c0 := HS.out.p.cell (i := 0) Nat.one_pos
        have HLAW := Lib.hid hct
        have HT5 := Lib.hid ht5
        have HT6 := Lib.hid ht6
        clear hct ht5 ht6
        go_wp2_with fail
        refine (iCountTales_any aS n cS L _ (by omega) HM.out HS.out.r).mono ?_
        generalize ctR n L = CT at *
        rintro e w6 ⟨rfl, hb⟩
        replace HS := Lib.hid (HS.out.below hb)
        replace HRS := Lib.hid (HRS.out.below hb)
        clear hb c0
        have c0 := HS.out.p.cell (i := 0) Nat.one_pos
        go_wp2_with fail
        refine (iLongestTale_any aS n cS L _ (by omega) HM.out HS.out.r).mono ?_
        generalize tlR n L true = U at *
        rintro e w7 ⟨aU, cU, rfl, hx, _, hb⟩
        generalize hUl : U.length = lU at *
        have HUL := Lib.hid hUl
        have HUS := Lib.hid hx
        have HTU := Lib.hid ht1
        replace HS := Lib.hid (HS.out.below hb)
        replace HRS := Lib.hid (HRS.out.below hb)
        clear hb hx hUl ht1 c0
        have c0 := HS.out.p.cell (i := 0) Nat.one_pos
        go_wp2_with fail
        refine (iShortestTale_any aS n cS L _ (by omega) HM.out HS.out.r).mono ?_
        generalize tlR n L false = V at *
        rintro e w8 ⟨aV, cV, rfl, hx, _, hb⟩
        generalize hVl : V.length = lV at *
        have HVL := Lib.hid hVl
        have HVS := Lib.hid hx
        have HTV := Lib.hid ht2
        have HT3 := Lib.hid ht3
        replace HS := Lib.hid (HS.out.below hb)
        replace HRS := Lib.hid (HRS.out.below hb)
        replace HUS := Lib.hid (HUS.out.below hb)
        clear hb hx hVl ht2 ht3 c0
        go_wp2_with fail
        go_loopw [13, 14] (fun v i wr => ∃ k : Nat, k ≤ n ∧ i = .int .i64 k ∧ v = .bool (endsN n L k) ∧ wr = w8) (fun _ i _ => n - (intOf i).toNat)
        case atStart => exact ⟨0, Nat.zero_le _, rfl, rfl, rfl⟩
        case round =>
          obtain ⟨k, hk, rfl, rfl, rfl⟩ := hrel
          by_cases hlt : k < n
          · as_aux_lemma =>
            obtain ⟨g, α, C, hg, lg, c1, _, _⟩ := HS.out.r.at hlt
            have c0 := HS.out.p.cell (i := 0) Nat.one_pos
            rw [hg] at c0
            clear hg
            have HMK := Lib.hid (HRM.out k hlt)
            have HE1 : Hid (endsN n L (k + 1) = (endsN n L k || (metB L k && ((lenN L k : Int) == 0)))) := Lib.hid (by
              show (endsN n L k || (metB L k && decide (lenN L k = 0))) = _
              congr 2
              by_cases h : lenN L k = 0
              · rw [decide_eq_true h, h]; rfl
              · rw [decide_eq_false h]; simp; omega)
            have i0 : (0 : Int) ≤ (k : Int) := Int.natCast_nonneg _
            have i1 : (k : Int) < (n : Int) := by omega
            generalize endsN n L k = B1 at *
            generalize metB L k = mb at *
            generalize lenN L k = m at *
            cases B1
            · go_wp2_with fail
              refine (has_any aR lR cR R k _ HRL.out (by omega) HRS.out mb HMK.out).mono ?_
              rintro e w9 ⟨rfl, rfl⟩
              cases mb
              · have HB : Hid (endsN n L (k + 1) = false) := Lib.hid (by rw [HE1.out]; rfl)
                go_wp2_with fail
                go_roundw
                case rel => exact ⟨k + 1, by omega, by go_num, by rw [HB.out], (by first | rfl | trivial)⟩
                case measure => simp [intOf]; omega
              · obtain ⟨z, hz⟩ : ∃ z, ((m : Int) == 0) = z := ⟨_, rfl⟩
                have HB : Hid (endsN n L (k + 1) = z) := Lib.hid (by rw [HE1.out, hz]; rfl)
                go_wp2_with fail
                go_roundw
                case rel => exact ⟨k + 1, by omega, by go_num, by rw [HB.out], (by first | rfl | trivial)⟩
                case measure => simp [intOf]; omega
            · have HB : Hid (endsN n L (k + 1) = true) := Lib.hid (by rw [HE1.out]; rfl)
              go_wp2_with fail
              go_roundw
              case rel => exact ⟨k + 1, by omega, by go_num, by rw [HB.out], (by first | rfl | trivial)⟩
              case measure => simp [intOf]; omega
          · have hkn : n = k := by omega
            subst hkn
            have i1 : ¬ ((n : Int) < (n : Int)) := by omega
            have HEN : Hid (decide ((lV : Int) > 0) = endsN n L n) := Lib.hid (by
              rw [← HT3.out]
              by_cases h : 0 < lV
              · rw [decide_eq_true h, decide_eq_true (by omega)]
              · rw [decide_eq_false h, decide_eq_false (by omega)])
            generalize endsN n L n = EN at *
            go_upto_region 26 with (fail)
            go_cut [134] (fun v wx => v = .bool false ∧ StoW w PC n cS aS L wx ∧ SlR wx aU lU (ic U) ∧ SlR wx aV lV (ic V))
            case first =>
              have c0 := HS.out.p.cell (i := 0) Nat.one_pos
              go_wp2_with fail
              refine (HEB.out _ HS.out.r).mono ?_
              rintro e w9 ⟨rfl, hb⟩
              replace HS := Lib.hid (HS.out.below hb)
              replace HUS := Lib.hid (HUS.out.below hb)
              replace HVS := Lib.hid (HVS.out.below hb)
              have hen := HEN.out
              clear hb c0
              rcases HLAW.out with ⟨rfl, rfl⟩ | ⟨rfl, hC⟩
              · obtain rfl : lU = 0 := HT5.out rfl
                cases EN
                · obtain rfl : lV = 0 := by have := of_decide_eq_false hen; omega
                  go_wp2_with fail
                  go_meet
                  case rel => exact ⟨rfl, HS.out, HUS.out, HVS.out⟩
                · have hen' : 0 < lV := by have := of_decide_eq_true hen; omega
                  go_wp2_with fail
                  go_meet
                  case rel => exact ⟨rfl, HS.out, HUS.out, HVS.out⟩
              · have z0 := HT6.out rfl
                have z1 : decide (lU < lV) = false := decide_eq_false (by omega)
                have z4 : decide ((lU : Int) < (lV : Int)) = false := decide_eq_false (by omega)
                have z2 : decide (CT < 1) = false := decide_eq_false (by omega)
                have z3 : (CT == -1) = false := by simp; omega
                clear z0
                cases EN
                · obtain rfl : lV = 0 := by have := of_decide_eq_false hen; omega
                  clear z1 z4 hen
                  go_wp2_with fail
                  go_meet
                  case rel => exact ⟨rfl, HS.out, HUS.out, HVS.out⟩
                · have hen' : 0 < lV := by have := of_decide_eq_true hen; omega
                  go_wp2_with fail
                  go_meet
                  case rel => exact ⟨rfl, HS.out, HUS.out, HVS.out⟩
            case rest =>
              obtain ⟨rfl, hs, hu, hv⟩ := hcut
              rename World => w9
              have HS9 := Lib.hid hs
              have HUS9 := Lib.hid hu
              have HVS9 := Lib.hid hv
              clear hs hu hv HS HUS HVS HRS HRL HRM HLAW HT5 HT6 HEN HEB HT3
              go_wp2_with fail
              go_loopw [15] (fun i wr => ∃ m : Nat, m ≤ 2 ∧ i = .int .i64 m ∧ Below w9.heap.size w9 wr) (fun i _ => 2 - (intOf i).toNat)
              case atStart => exact ⟨0, Nat.zero_le _, rfl, Below.refl _ _⟩
              case round =>
                obtain ⟨m, hm2, rfl, hb⟩ := hrel
                rename World => wm
                have HBM := Lib.hid hb
                clear hb
                by_cases hm1 : m < 2
                · have k1 : (m : Int) < 2 := by omega
                  go_upto_if 141 with (fail)
                  go_cut [16] (fun v wx => wx = wm ∧ ∃ aW lW cW W, TaleV n L w9 aW lW W ∧ v = .slice aW lW cW)
                  case first =>
                    have hmc : m = 0 ∨ m = 1 := by omega
                    rcases hmc with rfl | rfl
                    · go_wp2_with fail
                      go_meet
                      case rel => exact ⟨rfl, aU, lU, cU, U, ⟨HUL.out, h16, HTU.out, HUS9.out⟩, rfl⟩
                    · go_wp2_with fail
                      go_meet
                      case rel => exact ⟨rfl, aV, lV, cV, V, ⟨HVL.out, h16', HTV.out, HVS9.out⟩, rfl⟩
                  case rest =>
                    obtain ⟨rfl, aW, lW, cW, W, hW, rfl⟩ := hcut
                    have HWL := Lib.hid hW.len
                    have hW16 := hW.bd
                    have HWT := Lib.hid hW.tale
                    have HWS := Lib.hid hW.row
                    clear hW HUL HTU HUS9 HVL HTV HVS9 h16 h16'
                    go_wp2_with fail
                    go_loopw [17] (fun i wr => ∃ q : Nat, q ≤ lW ∧ i = .int .i64 q ∧ Below w9.heap.size w9 wr) (fun i _ => lW - (intOf i).toNat)
                    case atStart => exact ⟨0, Nat.zero_le _, rfl, HBM.out⟩
                    case round =>
                      obtain ⟨q, hq, rfl, hb⟩ := hrel
                      rename World => wi
                      have HBI := Lib.hid hb
                      clear hb
                      by_cases hlq : q < lW
                      · as_aux_lemma =>
                        have HT := Lib.hid (HWT.out q (by rw [HWL.out]; exact hlq))
                        have HSI := Lib.hid (HS9.out.below HBI.out)
                        have HWI := Lib.hid (HWS.out.below HBI.out)
                        obtain ⟨gW, hgW, hrW⟩ := HWI.out.row (by omega)
                        have HRW := Lib.hid hrW
                        clear hrW
                        have hx := HT.out.1
                        obtain ⟨xN, hxN⟩ : ∃ x : Nat, W.getD q 0 = (x : Int) := ⟨(W.getD q 0).toNat, by omega⟩
                        have HXN := Lib.hid hxN
                        have hend := HT.out.2.2.2
                        rw [hxN] at hx hend
                        rw [HWL.out, Int.toNat_natCast] at hend
                        obtain ⟨x0, x1⟩ := hx
                        obtain ⟨gS, α, C, hgS, lg, cx, _, _⟩ := HSI.out.r.at (i := xN) (by omega)
                        have cp := HSI.out.p.cell (i := 0) Nat.one_pos
                        rw [hgS] at cp
                        have HGS := Lib.hid hgS
                        clear hgS
                        have dq := HRW.out.cell hlq
                        unfold ic at dq
                        rw [hxN] at dq
                        have i0 : (0 : Int) ≤ (q : Int) := Int.natCast_nonneg _
                        have i1 : (q : Int) < (lW : Int) := by omega
                        obtain ⟨eb, heb⟩ : ∃ b : Bool, decide (q + 1 = lW) = b := ⟨_, rfl⟩
                        have t1 : ((lenN L xN : Int) == 0) = eb := by
                          rw [← heb]
                          by_cases h : q + 1 = lW
                          · rw [decide_eq_true h, hend.1 h]; rfl
                          · rw [decide_eq_false h]
                            have : lenN L xN ≠ 0 := fun h2 => h (hend.2 h2)
                            simp; omega
                        have t2 : ((q : Int) == (lW : Int) - 1) = eb := by
                          rw [← heb]
                          by_cases h : q + 1 = lW
                          · rw [decide_eq_true h]; simp; omega
                          · rw [decide_eq_false h]; simp; omega
                        have HW1 : Hid (IntKind.i64.wrap ((lW : Int) - 1) = (lW : Int) - 1 ∧ wrap64 ((lW : Int) - 1) = (lW : Int) - 1) := Lib.hid ⟨IntWalk.i64_in _ (by omega), IntWalk.wrap64_in _ (by omega)⟩
                        have t3 : (eb != eb) = false := by simp
                        have g1 : decide ((xN : Int) < 0) = false := decide_eq_false (by omega)
                        have g2 : decide ((xN : Int) ≥ (n : Int)) = false := decide_eq_false (by omega)
                        have l0' : (0 : Int) < (lW : Int) := by omega
                        clear heb hend
                        have p0 : ∀ i : WB wi, i.x.cell? ⟨PC, 0, none⟩ = some (.slice (some ⟨gS, 0, none⟩) n cS) := fun i => i.cell cp
                        have p1 : ∀ i : WB wi, i.x.cell? ⟨gS, xN, none⟩ = some (.slice α (lenN L xN) C) := fun i => i.cell cx
                        have p2 : ∀ i : WB wi, i.x.cell? ⟨gW, q, none⟩ = some (.int .i64 (xN : Int)) := fun i => i.cell dq
                        clear cp cx dq
                        generalize lenN L xN = mx at *
                        rw [hgW]
                        clear hgW
                        by_cases h0 : q = 0
                        · have hx0 := HT.out.2.1 h0
                          rw [h0] at hxN
                          have e0 : xN = 0 := by omega
                          clear hxN
                          subst e0
                          subst h0
                          have t2' : ((0 : Int) == (lW : Int) - 1) = eb := t2
                          have g3 : decide (n = 0) = false := decide_eq_false (by omega)
                          obtain ⟨s1, s2⟩ := HW1.out
                          go_wp2_with fail
                          refine wp_quietB (by kernel_rfl) (by kernel_rfl) ?_
                          repeat (go_big_quiet_step (fail))
                          refine wpQuiet_nil ?_
                          rintro wS' ⟨⟨wS, bS⟩, hwS⟩
                          replace hwS : wS' = wS := hwS
                          subst wS'
                          have HBJ := Lib.hid (HBI.out.trans (bS.mono HBI.out.size))
                          clear bS p0 p1 p2 t1 t2 t3 s1 s2 g1 g2 t2' g3
                          go_wp2_with fail
                          go_roundw
                          case rel => (first | exact ⟨1, by omega, by go_num, HBJ.out⟩ | ((repeat apply Exists.intro); exact ⟨⟨1, by omega, by go_num, HBJ.out⟩, rfl⟩))
                          case measure => simp [intOf]; omega
                        · obtain ⟨p, hp⟩ : ∃ p : Nat, q = p + 1 := ⟨q - 1, by omega⟩
                          have hlp : p < lW := by omega
                          have HTP := Lib.hid (HWT.out p (by rw [HWL.out]; exact hlp))
                          obtain ⟨yN, hyN⟩ : ∃ x : Nat, W.getD p 0 = (x : Int) := ⟨(W.getD p 0).toNat, by have := HTP.out.1; omega⟩
                          have hy := HTP.out.1
                          rw [hyN] at hy
                          obtain ⟨y0, y1⟩ := hy
                          have hcn := HT.out.2.2.1 (by omega)
                          rw [show q - 1 = p by omega, hyN, HXN.out, Int.toNat_natCast] at hcn
                          have HCN := Lib.hid hcn
                          obtain ⟨gS2, β, D, hgS2, lg2, cy, _, sy⟩ := HSI.out.r.at (i := yN) (by omega)
                          rw [HGS.out] at hgS2
                          obtain rfl : gS = gS2 := by injection hgS2 with h; injection h
                          have dp := HRW.out.cell hlp
                          unfold ic at dp
                          rw [hyN] at dp
                          have hmy := HM.out yN (by omega)
                          have SY := Lib.hid sy
                          have HLY : Hid ((rowN L yN).length = lenN L yN) := Lib.hid rfl
                          have p3 : ∀ i : WB wi, i.x.cell? ⟨gS, yN, none⟩ = some (.slice β (lenN L yN) D) := fun i => i.cell cy
                          have p4 : ∀ i : WB wi, i.x.cell? ⟨gW, p, none⟩ = some (.int .i64 (yN : Int)) := fun i => i.cell dp
                          generalize lenN L yN = my at *
                          have t4 : ((q : Int) == 0) = false := by simp; omega
                          have t5 : decide ((q : Int) > 0) = true := decide_eq_true (by omega)
                          have t6 : decide (0 < q) = true := decide_eq_true (by omega)
                          have g3 : decide (n ≤ xN) = false := decide_eq_false (by omega)
                          have HW2 : Hid (IntKind.i64.wrap ((q : Int) - 1) = (p : Int) ∧ wrap64 ((q : Int) - 1) = (p : Int)) := Lib.hid (by rw [show (q : Int) - 1 = (p : Int) by omega]; exact ⟨IntWalk.i64_in _ (by omega), IntWalk.wrap64_in _ (by omega)⟩)
                          have j0 : (0 : Int) ≤ (p : Int) := Int.natCast_nonneg _
                          have j1 : (p : Int) < (lW : Int) := by omega
                          clear cy dp sy hcn hyN hgS2 hxN hp
                          obtain ⟨s1, s2⟩ := HW1.out
                          obtain ⟨s3, s4⟩ := HW2.out
                          go_wp2_with fail
                          refine wp_quietB (by kernel_rfl) (by kernel_rfl) ?_
                          repeat (go_big_quiet_step ((go_at_call 34; exact quietE (has_any β my D (rowN L yN) xN _ HLY.out hmy (SY.out.below (WB.b _)) true HCN.out))))
                          refine wpQuiet_nil ?_
                          rintro wS' ⟨⟨wS, bS⟩, hwS⟩
                          replace hwS : wS' = wS := hwS
                          subst wS'
                          have HBJ := Lib.hid (HBI.out.trans (bS.mono HBI.out.size))
                          clear bS p0 p1 p2 p3 p4 t1 t2 t3 t4 t5 t6 s1 s2 s3 s4 g1 g2 g3
                          go_wp2_with fail
                          go_roundw
                          case rel => exact ⟨q + 1, by omega, by go_num, HBJ.out⟩
                          case measure => simp [intOf]; omega
                      · have i1 : ¬ ((q : Int) < (lW : Int)) := by omega
                        go_wp2_with fail
                        go_roundw
                        case rel => exact ⟨m + 1, by omega, by go_num, HBI.out⟩
                        case measure => simp [intOf]; omega
                · as_aux_lemma =>
                  obtain rfl : m = 2 := by omega
                  clear hm1
                  have HSF := Lib.hid (HS9.out.below HBM.out)
                  have c0 := HSF.out.p.cell (i := 0) Nat.one_pos
                  go_wp2_with fail
                  refine (iStoryOk_any aS n cS L _ (by omega) HM.out HSF.out.r).mono ?_
                  rw [storyB_t HOK.out]
                  rintro e wX ⟨rfl, hb⟩
                  have HSX := Lib.hid (HSF.out.below hb)
                  have HT := Lib.hid (three_RSt wX)
                  have HTB := Lib.hid (three_below wX)
                  have z1 : decide ((lV : Int) ≤ (n : Int)) = true := decide_eq_true (by omega)
                  clear hb c0
                  go_wp2_with fail
                  unfold threeW at HT HTB
                  refine (iCountTales_any _ 3 _ three _ (by omega) (rows_small three_ok) HT.out).mono ?_
                  rw [three_ct]
                  rintro e wY ⟨rfl, hb⟩
                  have HBF := Lib.hid (HSX.out.b.trans ((HTB.out.trans (hb.mono HTB.out.size)).mono HSX.out.b.size))
                  clear hb
                  go_wp2
                  go_ret
                  exact ⟨rfl, HBF.out⟩
  · have hb : decide (1048576 < (l0 : Int)) = true := decide_eq_true (by omega)
    go_enter Try.func10, Try.ntmps10
    go_wp2_with fail
    refine (big_any a0 l0 c0 _ hmx).mono ?_
    rw [hb]
    rintro e w1 ⟨rfl, rfl⟩
    go_wp2
    go_ret
    exact ⟨rfl, Below.refl _ _⟩

set_option maxRecDepth 100000 in
theorem lifted (os : Os) (started : os.Started) (H : Type) (enc : TypeId × Value → H) :
    ReturnsInHanded {} Try.checked os 10 .any (Rows.fnStoriesSpec.pre6 enc Try.prog Try.f10 Rows.fnStoriesRow.domain false) (Rows.fnStoriesSpec.post enc Try.prog Try.f10 false true false false) := by
  refine returnsInHanded_of_change (C := Try.checked) own started (by kernel_rfl) Try.func10
    (ChangeSpec.witness6 (enc := enc) (C := Try.checked) false ⟨#[], #[.slice none 0 0], []⟩ 8 (by kernel_rfl) (by kernel_rfl) (by kernel_rfl) (by kernel_rfl)) ?_
  intro W base args ds gs before hval0 hW hcnd _
  have hval : ∀ (j : Nat) t v, Try.f10.params[j]? = some t → args[j]? = some v → Value.okWide Try.prog W .any base t v := hval0
  have hW' := hW
  obtain ⟨p, q, hA0, hV, rfl, hfz, hnd⟩ := hW
  have hA : DataW.TrodAll enc Try.prog W 0 (fun _ => true) true Try.f10.params.toList args.toList ds p := hA0
  rw [Try.params10] at hA hval
  obtain ⟨v0, vs0, d0, ds0, p0, q0, hargs, rfl, rfl, h0, r0⟩ := trodAll_cons hA
  obtain ⟨rfl, rfl, rfl⟩ := trodAll_nil r0
  obtain rfl : args = #[v0] := by cases args; simp_all
  obtain ⟨rfl, rfl⟩ := trodVars_none hV
  have k0 := h0
  have lt0 : ∀ x ∈ p0, x.block < W.heap.size := by obtain ⟨m, hm⟩ := k0; exact DataW.trod_lt m _ _ _ hm
  obtain ⟨a0, l0, c0, z0, rfl, w0⟩ := open_bytes (hval 0 39 v0 rfl rfl) h0
  clear hA0 hval0
  refine (walk W a0 l0 c0 z0 w0).mono fun e W' ⟨he, bel⟩ => ?_
  subst he
  exact ⟨_, rfl, _, _, _, [], _, [], hW', trodAll_mk1 (shut_bool Try.underlying4 _), (trodAll_cons_mk (Below.trod laidOut (by kernel_rfl) (of_decide_eq_true (by kernel_rfl)) k0 bel lt0) trodAll_mk0), rfl, bel.frame _, fun h => by cases h⟩

theorem over : Rows.fnStoriesRow.holds Try.pinned (OpenSpec.ofChange Rows.fnStoriesSpec) :=
  OpenClaim.holds_of_wide 10 Try.f10 rfl rfl rfl rfl rfl rfl rfl ⟨rfl, rfl, rfl, rfl, rfl⟩ rfl rfl rfl rfl rfl (by kernel_rfl) Try.func10 (by kernel_rfl)
    (of_decide_eq_true (by kernel_rfl)) (by unfold Func.isWrapper; first | (rw [if_pos (by decide +kernel)]; kernel_rfl) | (rw [if_neg (by decide +kernel)]; exact ⟨rfl, rfl⟩))
    (fun os started H enc _ => lifted os started H enc)

/-- The statement. -/
theorem proved : Rows.FnStoriesSaid :=
  over
#print axioms proved
end Go.Proofs.Ytjnjlpljakkakaa.fnStories
