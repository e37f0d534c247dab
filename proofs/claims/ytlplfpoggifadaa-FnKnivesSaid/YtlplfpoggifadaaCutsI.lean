/-
  Contracts of CutsOf in the program and in the reference.
  By an AI agent.
-/
import Derived.Test.YtlplfpoggifadaaRunsI
import Derived.Test.YtlplfpoggifadaaCutG
import Derived.Test.YtlplfpoggifadaaTail
import Derived.Deep.RegionHeld3
import Derived.Deep.RegionLaw
import Derived.BigRegion
namespace Go.Proofs.Ytlplfpoggifadaa
open Go.ChangeShapes Go.WideShapes Go.ChangeAt Go.RowKit Go.Joins Go.Deep
set_option maxRecDepth 100000
set_option linter.unusedVariables false

/-- A list of pairs in memory: the header of pair q at ⟨g, q⟩, its numbers at ⟨A q, 0⟩ and ⟨A q, 1⟩. -/
def PrS (w : World) (lo hi g n : Nat) (R : Rows) : Prop := R = [] ∨ OSt w lo hi g n R
theorem PrS.only {w w' : World} {lo hi g n k : Nat} {R : Rows} (h : PrS w lo hi g n R) (ho : OnlyB k w w') (hk : k < lo ∨ hi ≤ k) : PrS w' lo hi g n R := by
  rcases h with h | ⟨⟨h1, h2⟩, A, h3, h4⟩
  · exact .inl h
  · refine .inr ⟨⟨h1, h2⟩, A, ho.row h3 (by omega), fun i hi => ?_⟩
    obtain ⟨⟨a, b, c, d⟩, e⟩ := h4 i hi
    exact ⟨⟨a, b, c, d⟩, ho.row e (by omega)⟩
theorem PrS.below {w w' : World} {lo hi g n : Nat} {R : Rows} (h : PrS w lo hi g n R) (hb : Below w.heap.size w w') : PrS w' lo hi g n R := by
  rcases h with h | h
  · exact .inl h
  · exact .inr (h.below hb)
theorem PrS.at {w : World} {lo hi g n q N : Nat} {R : Rows} (h : PrS w lo hi g n R) (hn : R.length = n) (hq : q < n) (ho : ∀ r ∈ R, runOk N r) :
    ∃ x a b : Nat, w.cell? ⟨g, q, none⟩ = some (.slice (some ⟨x, 0, none⟩) 2 2) ∧ w.cell? ⟨x, 0, none⟩ = some (.int .i64 (a : Int)) ∧ w.cell? ⟨x, 1, none⟩ = some (.int .i64 (b : Int)) ∧ a ≤ b ∧ b < N ∧ rowN R q = [(a : Int), (b : Int)] ∧ R.take (q + 1) = R.take q ++ [rowN R q] := by
  rcases h with h | ⟨_, A, h3, h4⟩
  · rw [h] at hn; simp at hn; omega
  · have hr : rowN R q = R[q]'(by omega) := getD_at _ _ _
    obtain ⟨a, b, he, h1, h2⟩ := ho _ (by rw [hr]; exact List.getElem_mem _ : rowN R q ∈ R)
    have h5 := (h4 q hq).2
    have h6 := h3.cell hq
    unfold crow lenN at h6
    unfold lenN at h5
    rw [he] at h5 h6
    exact ⟨A q, a, b, h6, h5.cell (i := 0) (by simp), h5.cell (i := 1) (by simp), h1, h2, he, by rw [List.take_succ_eq_append_getElem (by omega), hr]⟩
theorem GetR.prs {w w' : World} {R : Rows} {e : Ending} (h : GetR R w e w') : ∃ (g : Nat) (a : Option Addr) (c : Nat), e = .returned (.slice a R.length c) ∧ (R.length ≠ 0 → a = some ⟨g, 0, none⟩) ∧ PrS w' w.heap.size w'.heap.size g R.length R ∧ Below w.heap.size w w' := by
  obtain ⟨a, c, he, h1, hb⟩ := h
  rcases h1 with h1 | ⟨g, hg, h1⟩
  · exact ⟨0, a, c, he, fun h => by rw [h1] at h; exact absurd rfl h, .inl h1, hb⟩
  · exact ⟨g, a, c, he, fun _ => hg, .inr h1, hb⟩
def cutQ (ss : List ByteArray) (N k q : Nat) : List DCut := cutsN ss N k ++ ((runsAt ss N k).take q).map (runCut ((k + 1 : Nat) : Int))
theorem cutQ_zero (ss : List ByteArray) (N k : Nat) : cutQ ss N k 0 = cutsN ss N k := by unfold cutQ; simp
theorem cutQ_all (ss : List ByteArray) (N k : Nat) : cutQ ss N k (runsAt ss N k).length = cutsN ss N (k + 1) := by unfold cutQ; rw [List.take_length]; rfl
theorem cutQ_len (ss : List ByteArray) (N k q : Nat) (hk : k ≤ 10) (hN : N ≤ 16) : (cutQ ss N k q).length ≤ 176 := by
  unfold cutQ
  have h1 := cutsN_len ss N k
  have h2 := runsAt_len ss N k
  have h3 : k * N ≤ 10 * 16 := Nat.mul_le_mul hk hN
  rw [List.length_append, List.length_map, List.length_take]
  omega
theorem cutQ_succ {ss : List ByteArray} {N k q a b : Nat} (h1 : rowN (runsAt ss N k) q = [(a : Int), (b : Int)]) (h2 : (runsAt ss N k).take (q + 1) = (runsAt ss N k).take q ++ [rowN (runsAt ss N k) q]) :
    cutQ ss N k (q + 1) = cutQ ss N k q ++ [⟨((k + 1 : Nat) : Int), (a : Int), (b : Int) + 1⟩] := by
  unfold cutQ
  rw [h2, h1, List.map_append, ← List.append_assoc]
  rfl
structure CuS (w : World) (P d f n c g1 c1 : Nat) (aS : Option Addr) (ss : List ByteArray) (L : List DCut) (wx : World) (D F : Int) : Prop where
  p : Row wx P 3 (tri (.int .i64 D) (.int .i64 F) (.slice aS n c))
  s : SlR wx aS n (sc ss)
  b : Below w.heap.size w wx
  o : Own3 wx w.heap.size 51 g1 L.length c1 (cv L)
  gp : g1 ≠ P
set_option maxHeartbeats 3200000 in
theorem iCutsOf_any (d f : Int) (a : Option Addr) (n c : Nat) (ss : List ByteArray) (w : World) (hl : ss.length = n) (hm : (n : Int) + tot ss n ≤ 1048576) (hR : SlR w a n (sc ss)) :
    Calls Try.prog 12 #[.agg #[.int .i64 d, .int .i64 f, .slice a n c]] w (GetC (cutsR d f n ss) w) := by
  have HB0 := Lib.hid (Below.box w (.cells #[.int .i64 d, .int .i64 f, .slice a n c] 28 (0, 0)))
  have HR := Lib.hid (hR.below HB0.out)
  have HL := Lib.hid hl
  have hP0 := Row.new3 w (.int .i64 d) (.int .i64 f) (.slice a n c) 28
  have HP := Lib.hid hP0
  have hnm : n ≤ 1048576 := by omega
  have HAL : Hid (∀ g, a = some ⟨g, 0, none⟩ → n ≠ 0 → g < w.heap.size) := Lib.hid (fun g hg hn => by
    rcases hR with h | ⟨g', h, hr⟩
    · exact absurd h hn
    · rw [hg] at h
      simp only [Option.some.injEq, Addr.mk.injEq, and_true] at h
      subst h
      exact hr.lt)
  clear hl hR
  cases ho : cardOkB d f ss
  · have HO := Lib.hid ho
    have HV := Lib.hid (cutsR_no (n := n) ho)
    clear ho
    clear hP0
    go_enter Try.func12, Try.ntmps12
    go_wp2_with (go_at_call 40; refine (iCardOk_any _ _ _ _ _ _ _ HL.out hm HR.out).mono ?_; rw [HO.out]; rintro e w1 ⟨rfl, hb1⟩; have HB1 := Lib.hid (HB0.out.trans (hb1.mono HB0.out.size)); clear hb1)
    go_ret
    exact GetC.nil HV.out HB1.out none 0
  · have hnn := cardOk_iff.1 ho
    obtain ⟨N, hN⟩ : ∃ N : Nat, d + f = (N : Int) := ⟨(d + f).toNat, by omega⟩
    have hC : Cd d f n N ss := ⟨HL.out, hm, ho, hN⟩
    have HC := Lib.hid hC
    have HV := Lib.hid (cutsR_yes hC)
    have HO := Lib.hid ho
    obtain ⟨_, hn1, hn10, _, hN16⟩ := hC.bds
    have HS : Hid (∀ k, k < n → (rowS ss k).size = N) := Lib.hid (fun k hk => hC.size hk)
    clear hnn hN hC ho
    clear hP0
    go_enter Try.func12, Try.ntmps12
    go_wp2_with fail
    refine (iCardOk_any _ _ _ _ _ _ _ HL.out hm HR.out).mono ?_
    rw [HO.out]
    rintro e w1 ⟨rfl, hb1⟩
    have PP := HP.out.below hb1 HP.out.lt
    have RR := HR.out.below hb1
    have BB := HB0.out.trans (hb1.mono HB0.out.size)
    have NE : w1.heap.size ≠ w.heap.size := by have := hb1.size; simp only [World.size_alloc] at this; omega
    have HO0 : Hid (Own3 (w1.alloc (.cells #[] 51 (0, 0))) w.heap.size 51 w1.heap.size 0 0 (cv [])) := Lib.hid (by have := owns_empty w1 51 3; exact ⟨this.1, this.2.imp id (fun ⟨g, cap, cur, h1, h2, h3⟩ => ⟨g, cap, cur, h1, Nat.le_trans BB.size h2, h3⟩)⟩)
    have hbx := Below.box w1 (.cells #[] 51 (0, 0))
    have HU : Hid (CuS w w.heap.size 0 0 n c w1.heap.size 0 a ss [] (w1.alloc (.cells #[] 51 (0, 0))) d f) := Lib.hid ⟨PP.below hbx PP.lt, RR.below hbx, BB.trans (hbx.mono BB.size), HO0.out, NE⟩
    clear hb1 hbx PP RR BB NE HO0 HB0 HR HP
    go_wp2_with fail
    generalize w1.alloc (.cells #[] 51 (0, 0)) = wA at *
    generalize w1.heap.size = GA at *
    go_loopw [3, 4] (fun v i wr => ∃ (k g1 c1 : Nat), k ≤ n - 1 ∧ i = .int .i64 ((k + 1 : Nat) : Int) ∧ v = .slice (some ⟨g1, 0, none⟩) (cutsN ss N k).length c1 ∧ CuS w w.heap.size 0 0 n c g1 c1 a ss (cutsN ss N k) wr d f) (fun _ i _ => n - (intOf i).toNat)
    case atStart => exact ⟨0, _, 0, Nat.zero_le _, rfl, rfl, HU.out⟩
    case round =>
      clear HU
      obtain ⟨k, g1, c1, hk, rfl, rfl, hu⟩ := hrel
      have HU := Lib.hid hu
      obtain ⟨⟨p0, p1, p2⟩, _⟩ := hu.p.tri3
      have hpl := hu.p.lt
      clear hu
      by_cases hlt : k + 1 < n
      · obtain ⟨gS, rfl, hrS⟩ := HU.out.s.row (by omega)
        have hgS := HAL.out gS rfl (by omega)
        have s0 := hrS.cell (i := k) (by omega)
        have s1 := hrS.cell (i := k + 1) hlt
        have z0 : (sc ss k) = .string (rowS ss k) := rfl
        have z1 : (sc ss (k + 1)) = .string (rowS ss (k + 1)) := rfl
        rw [z0] at s0
        rw [z1] at s1
        have HT := Lib.hid (HC.out.two hlt)
        have HQ : Hid (runsL (dfL (rowS ss k) (rowS ss (k + 1)) N) = runsAt ss N k) := Lib.hid rfl
        have hgl := HU.out.o.lt
        clear hrS z0 z1
        generalize rowS ss k = sA at *
        generalize rowS ss (k + 1) = sB at *
        have i0 : (0 : Int) ≤ (k : Int) := Int.natCast_nonneg _
        have i1 : (k : Int) < (n : Int) := by omega
        have i2 : ((k + 1 : Nat) : Int) < (n : Int) := by omega
        have i3 : (0 : Int) ≤ ((k + 1 : Nat) : Int) := Int.natCast_nonneg _
        have i4 : IntKind.i64.wrap (((k + 1 : Nat) : Int) - 1) = (k : Int) := by rw [show ((k + 1 : Nat) : Int) - 1 = (k : Int) by omega]; exact IntWalk.i64_in _ (by omega)
        have i4' : wrap64 (((k + 1 : Nat) : Int) - 1) = (k : Int) := by rw [show ((k + 1 : Nat) : Int) - 1 = (k : Int) by omega]; exact IntWalk.wrap64_in _ (by omega)
        generalize hkk : k + 1 = k2 at *
        have HKK := Lib.hid hkk
        clear hkk
        go_wp2_with fail
        have hS : Hid ((wr.drew.cell? ⟨w.heap.size, 2, none⟩ = some (.slice (some ⟨gS, 0, none⟩) n c) ∧ wr.drew.cell? ⟨gS, k, none⟩ = some (.string sA) ∧ wr.drew.cell? ⟨gS, k2, none⟩ = some (.string sB)) ∧ Hid (Below wr.heap.size wr wr.drew)) := Lib.hid ⟨⟨p2, s0, s1⟩, Lib.hid ((Below.refl _ _).drew)⟩
        have HCL : Hid (∀ w', Below wr.heap.size wr w' → (w'.cell? ⟨w.heap.size, 2, none⟩ = some (.slice (some ⟨gS, 0, none⟩) n c) ∧ w'.cell? ⟨gS, k, none⟩ = some (.string sA) ∧ w'.cell? ⟨gS, k2, none⟩ = some (.string sB))) := Lib.hid (fun w' hb => ⟨(hb.cell (p := ⟨w.heap.size, 2, none⟩) (World.block_lt_of_cell? _ _ p2)).trans p2, (hb.cell (p := ⟨gS, k, none⟩) (World.block_lt_of_cell? _ _ s0)).trans s0, (hb.cell (p := ⟨gS, k2, none⟩) (World.block_lt_of_cell? _ _ s1)).trans s1⟩)
        go_region_held3 (fun w' => (w'.cell? ⟨w.heap.size, 2, none⟩ = some (.slice (some ⟨gS, 0, none⟩) n c) ∧ w'.cell? ⟨gS, k, none⟩ = some (.string sA) ∧ w'.cell? ⟨gS, k2, none⟩ = some (.string sB)) ∧ Hid (Below wr.heap.size wr w'))
          (first | exact hS.out | exact hS2.out | (go_keep; done))
          ((go_at_call 41; refine (iCutRuns_any sA sB N _ HT.out).mono ?_; rw [HQ.out]; intro e w3 hgr; obtain ⟨gR, aR, cR, rfl, hgR, hps, hb⟩ := hgr.prs; have hb' : Below wr.heap.size wr w3 := Below.trans (Below.refl _ _).drew hb; have hS2 := Lib.hid (⟨HCL.out _ hb', Lib.hid hb'⟩ : (w3.cell? ⟨w.heap.size, 2, none⟩ = some (.slice (some ⟨gS, 0, none⟩) n c) ∧ w3.cell? ⟨gS, k, none⟩ = some (.string sA) ∧ w3.cell? ⟨gS, k2, none⟩ = some (.string sB)) ∧ Hid (Below wr.heap.size wr w3)); have HGRX := Lib.hid hgR; have HPSX := Lib.hid hps; clear hb hb' hgR hps hgr))
        have hgR := HGRX.out
        have hps : PrS w3 wr.heap.size w3.heap.size gR (runsAt ss N k).length (runsAt ss N k) := HPSX.out
        have hb' := hS2.out.2.out
        have hb := hb'
        clear hS hS2 HCL HGRX HPSX
        have HGR := Lib.hid hgR
        have HPS := Lib.hid hps
        have HU3 : Hid (CuS w w.heap.size 0 0 n c g1 c1 (some ⟨gS, 0, none⟩) ss (cutQ ss N k 0) w3 d f) := Lib.hid (by rw [cutQ_zero]; exact ⟨HU.out.p.below hb' HU.out.p.lt, HU.out.s.below hb', HU.out.b.trans (hb'.mono HU.out.b.size), HU.out.o.below hb', HU.out.gp⟩)
        have hsz : wr.heap.size ≤ w3.heap.size := hb'.size
        have HZ : Hid ((cutQ ss N k 0).length = (cutsN ss N k).length) := Lib.hid (by rw [cutQ_zero])
        have HOKR := Lib.hid (runsAt_ok ss N k)
        have HRL := Lib.hid (runsAt_len ss N k)
        clear hgR hps hb hb' s0 s1 p0 p1 p2
        clear HU
        rw [← HZ.out]
        go_wp2_with fail
        rename World => wo
        go_loopw [3, 31] (fun v i wi => ∃ (q g2 c2 : Nat), q ≤ (runsAt ss N k).length ∧ i = .int .i64 q ∧ v = .slice (some ⟨g2, 0, none⟩) (cutQ ss N k q).length c2 ∧ CuS w w.heap.size 0 0 n c g2 c2 (some ⟨gS, 0, none⟩) ss (cutQ ss N k q) wi d f ∧ PrS wi wr.heap.size wo.heap.size gR (runsAt ss N k).length (runsAt ss N k) ∧ (g2 < wr.heap.size ∨ wo.heap.size ≤ g2) ∧ wo.heap.size ≤ wi.heap.size) (fun _ i _ => (runsAt ss N k).length - (intOf i).toNat)
        case atStart => exact ⟨0, _, _, Nat.zero_le _, rfl, rfl, HU3.out, HPS.out, by omega, Nat.le_refl _⟩
        case round =>
          rename World => wi
          clear HU3 HPS
          obtain ⟨q, g2, c2, hq, rfl, rfl, hu, hps, hg2, hwi⟩ := hrel
          have HU := Lib.hid hu
          have HPS := Lib.hid hps
          clear hu hps
          obtain ⟨⟨p0, p1, p2⟩, _⟩ := HU.out.p.tri3
          have hpl := HU.out.p.lt
          have hll := cutQ_len ss N k q (by omega) hN16
          obtain ⟨rl, hrl⟩ : ∃ m, (runsAt ss N k).length = m := ⟨_, rfl⟩
          rw [hrl] at hq ⊢
          have hrb : rl ≤ 16 := by have := HRL.out; rw [hrl] at this; omega
          by_cases hlq : q < rl
          · obtain ⟨x, av, bv, e0, e1, e2, hab, hbN, hr1, hr2⟩ := HPS.out.at rfl (by rw [hrl]; exact hlq) HOKR.out
            have hga := HGR.out (by rw [hrl]; omega)
            subst hga
            have HNX := Lib.hid (cutQ_succ hr1 hr2)
            clear hr1 hr2
            have j0 : (0 : Int) ≤ (q : Int) := Int.natCast_nonneg _
            have j1 : (q : Int) < (rl : Int) := by omega
            have j2 : IntKind.i64.wrap ((bv : Int) + 1) = (bv : Int) + 1 := IntWalk.i64_in _ (by omega)
            have HRE := Lib.hid hrl
            clear hrl
            have HRW := Lib.hid ((Row.new3 wi (.int .i64 (k2 : Int)) (.int .i64 (av : Int)) (.int .i64 ((bv : Int) + 1)) 51).drew)
            have hbx := (Below.box wi (.cells #[.int .i64 (k2 : Int), .int .i64 (av : Int), .int .i64 ((bv : Int) + 1)] 51 (0, 0))).drew
            have HOW : Hid (Own3 (wi.alloc (.cells #[.int .i64 (k2 : Int), .int .i64 (av : Int), .int .i64 ((bv : Int) + 1)] 51 (0, 0))).drew w.heap.size 51 g2 (cutQ ss N k q).length c2 (cv (cutQ ss N k q))) := Lib.hid (HU.out.o.below hbx)
            have HBX := Lib.hid hbx
            clear hbx
            skip
            go_wp2_with fail
            go_region_law (refine step_append_three rfl (.tmp 35) (.tmp 45) 26 rfl Try.underlying26 infoCut rfl (by omega) (by simp [Act.eval, Act.put]) HOW.out (by omega) (by simp [Act.eval, Act.put]) HRW.out (fun i _ => by unfold tri; split <;> (try split) <;> rfl) ?_; intro g' c' w5 o5 oo5 l5; have O5 := Lib.hid o5; have OO5 := Lib.hid oo5; have L5 := Lib.hid l5; clear o5 oo5 l5)
            all_goals
              skip
              have hzz : ((wi.alloc (.cells #[.int .i64 (k2 : Int), .int .i64 (av : Int), .int .i64 ((bv : Int) + 1)] 51 (0, 0))).drew).heap.size = wi.heap.size + 1 := by simp
              have hgl2 := HU.out.o.lt
              have h5s := OO5.out.size
              have hl5 := L5.out
              rw [hzz] at h5s hl5
              have hbw := HBX.out
              have hpne := HU.out.gp
              have HCL : Hid ((cutQ ss N k (q + 1)).length = (cutQ ss N k q).length + 1) := Lib.hid (by rw [HNX.out, List.length_append]; rfl)
              have HUF : Hid (CuS w w.heap.size 0 0 n c g' c' (some ⟨gS, 0, none⟩) ss (cutQ ss N k (q + 1)) w5 d f) := Lib.hid
                ⟨OO5.out.row (HU.out.p.below hbw hpl) (by omega), OO5.out.sl (HU.out.s.below hbw) (fun b hb _ => by
                  simp only [Option.some.injEq] at hb
                  subst hb
                  show gS ≠ g2
                  omega), HU.out.b.trans ((hbw.mono HU.out.b.size).trans (OO5.out.toBelow hgl2.1 (by rw [hzz]; omega))), by rw [HCL.out, HNX.out, ← cv_push, HKK.out]; exact O5.out, by omega⟩
              have HPF := Lib.hid ((HPS.out.below hbw).only OO5.out hg2)
              go_wp2
              go_roundw
              case rel => exact ⟨q + 1, g', c', by omega, by go_num, by rw [HCL.out], HUF.out, by have := HPF.out; rw [HRE.out] at this; exact this, by omega, by omega⟩
              case measure => simp [intOf]; omega
          · have hq' : q = rl := by omega
            subst hq'
            have j1 : ¬ (q : Int) < (q : Int) := by omega
            have hall : cutQ ss N k q = cutsN ss N (k + 1) := by rw [← hrl]; exact cutQ_all ss N k
            rw [hall]
            have HUE : Hid (CuS w w.heap.size 0 0 n c g2 c2 (some ⟨gS, 0, none⟩) ss (cutsN ss N (k + 1)) wi d f) := Lib.hid (by rw [← hall]; exact HU.out)
            clear hall hrl HU
            go_wp2
            go_roundw
            case rel => exact ⟨k + 1, g2, c2, by have := HKK.out; omega, by have := HKK.out; first | (congr 1; omega) | (congr 1; done) | go_num, rfl, HUE.out⟩
            case measure => have := HKK.out; simp [intOf]; omega
      · have hk' : n - 1 = k := by omega
        have i1 : ¬ ((k + 1 : Nat) : Int) < (n : Int) := by omega
        go_wp2
        go_ret
        rw [HV.out, hk']
        exact GetC.own HU.out.o rfl (Nat.le_refl _) HU.out.b
set_option maxHeartbeats 3200000 in
theorem sCutsOf_any (d f : Int) (a : Option Addr) (n c : Nat) (ss : List ByteArray) (w : World) (hl : ss.length = n) (hm : (n : Int) + tot ss n ≤ 1048576) (hR : SlR w a n (sc ss)) :
    Calls Try.prog 10 #[.agg #[.int .i64 d, .int .i64 f, .slice a n c]] w (GetC (cutsR d f n ss) w) := by
  have HB0 := Lib.hid (Below.box w (.cells #[.int .i64 d, .int .i64 f, .slice a n c] 28 (0, 0)))
  have HR := Lib.hid (hR.below HB0.out)
  have HL := Lib.hid hl
  have hP0 := Row.new3 w (.int .i64 d) (.int .i64 f) (.slice a n c) 28
  have HP := Lib.hid hP0
  have hnm : n ≤ 1048576 := by omega
  have HAL : Hid (∀ g, a = some ⟨g, 0, none⟩ → n ≠ 0 → g < w.heap.size) := Lib.hid (fun g hg hn => by
    rcases hR with h | ⟨g', h, hr⟩
    · exact absurd h hn
    · rw [hg] at h
      simp only [Option.some.injEq, Addr.mk.injEq, and_true] at h
      subst h
      exact hr.lt)
  clear hl hR
  cases ho : cardOkB d f ss
  · have HO := Lib.hid ho
    have HV := Lib.hid (cutsR_no (n := n) ho)
    clear ho
    have hbx := Below.box (w.alloc (.cells #[.int .i64 d, .int .i64 f, .slice a n c] 28 (0, 0))) (.cells #[] 51 (0, 0))
    have hP1 := hP0.below hbx hP0.lt
    have HR2 := Lib.hid (HR.out.below hbx)
    have HB2 := Lib.hid (HB0.out.trans (hbx.mono HB0.out.size))
    obtain ⟨⟨p0, p1, p2⟩, _⟩ := hP1.tri3
    clear hbx hP0 hP1 HP
    go_enter Try.func10, Try.ntmps10
    by_cases h1 : 1 < n
    · have h2 : decide ((1 : Int) < (n : Int)) = true := decide_eq_true (by omega)
      have h2' : (1 : Int) < (n : Int) := by omega
      go_wp2_with fail
      generalize (w.alloc (.cells #[.int .i64 d, .int .i64 f, .slice a n c] 28 (0, 0))).alloc (.cells #[] 51 (0, 0)) = w1 at *
      refine wp_loop_rounds 1 ?_
      rw [rounds_succ]
      go_wp2_with (go_at_call 37; refine (sCardOk_any _ _ _ _ _ _ _ HL.out hm HR2.out).mono ?_; rw [HO.out]; rintro e w2 ⟨rfl, hb1⟩; have HB3 := Lib.hid (HB2.out.trans (hb1.mono HB2.out.size)); clear hb1)
      go_ret
      exact GetC.nil HV.out HB3.out _ _
    · have h2 : decide ((1 : Int) < (n : Int)) = false := decide_eq_false (by omega)
      have h2' : ¬ (1 : Int) < (n : Int) := by omega
      go_wp2_with fail
      generalize (w.alloc (.cells #[.int .i64 d, .int .i64 f, .slice a n c] 28 (0, 0))).alloc (.cells #[] 51 (0, 0)) = w1 at *
      refine wp_loop_rounds 1 ?_
      rw [rounds_succ]
      go_wp2_with fail
      go_ret
      exact GetC.nil HV.out HB2.out _ _
  · have hnn := cardOk_iff.1 ho
    obtain ⟨N, hN⟩ : ∃ N : Nat, d + f = (N : Int) := ⟨(d + f).toNat, by omega⟩
    have hC : Cd d f n N ss := ⟨HL.out, hm, ho, hN⟩
    have HC := Lib.hid hC
    have HV := Lib.hid (cutsR_yes hC)
    have HO := Lib.hid ho
    obtain ⟨_, hn1, hn10, _, hN16⟩ := hC.bds
    have HS : Hid (∀ k, k < n → (rowS ss k).size = N) := Lib.hid (fun k hk => hC.size hk)
    clear hnn hN hC ho
    have PP := HP.out
    have RR := HR.out
    have BB := HB0.out
    have NE : (w.alloc (.cells #[.int .i64 d, .int .i64 f, .slice a n c] 28 (0, 0))).heap.size ≠ w.heap.size := by simp
    have HO0 : Hid (Own3 ((w.alloc (.cells #[.int .i64 d, .int .i64 f, .slice a n c] 28 (0, 0))).alloc (.cells #[] 51 (0, 0))) w.heap.size 51 (w.alloc (.cells #[.int .i64 d, .int .i64 f, .slice a n c] 28 (0, 0))).heap.size 0 0 (cv [])) := Lib.hid (by have := owns_empty (w.alloc (.cells #[.int .i64 d, .int .i64 f, .slice a n c] 28 (0, 0))) 51 3; exact ⟨this.1, this.2.imp id (fun ⟨g, cap, cur, h1, h2, h3⟩ => ⟨g, cap, cur, h1, Nat.le_trans BB.size h2, h3⟩)⟩)
    have hbx := Below.box (w.alloc (.cells #[.int .i64 d, .int .i64 f, .slice a n c] 28 (0, 0))) (.cells #[] 51 (0, 0))
    have HU : Hid (CuS w w.heap.size 0 0 n c (w.alloc (.cells #[.int .i64 d, .int .i64 f, .slice a n c] 28 (0, 0))).heap.size 0 a ss [] ((w.alloc (.cells #[.int .i64 d, .int .i64 f, .slice a n c] 28 (0, 0))).alloc (.cells #[] 51 (0, 0))) d f) := Lib.hid ⟨PP.below hbx PP.lt, RR.below hbx, BB.trans (hbx.mono BB.size), HO0.out, NE⟩
    clear hbx PP RR BB NE HO0 HB0 HR HP hP0
    go_enter Try.func10, Try.ntmps10
    go_wp2_with fail
    have z1 : (w.alloc (.cells #[.int .i64 d, .int .i64 f, .slice a n c] 28 (0, 0))).heap.size = w.heap.size + 1 := by simp
    rw [z1] at HU
    clear z1
    generalize (w.alloc (.cells #[.int .i64 d, .int .i64 f, .slice a n c] 28 (0, 0))).alloc (.cells #[] 51 (0, 0)) = wA at *
    generalize w.heap.size + 1 = GA at *
    go_loopw [3, 4] (fun v i wr => ∃ (k g1 c1 : Nat), k ≤ n - 1 ∧ i = .int .i64 (k : Int) ∧ v = .slice (some ⟨g1, 0, none⟩) (cutsN ss N k).length c1 ∧ CuS w w.heap.size 0 0 n c g1 c1 a ss (cutsN ss N k) wr d f) (fun _ i _ => n - (intOf i).toNat)
    case atStart => exact ⟨0, _, 0, Nat.zero_le _, rfl, rfl, HU.out⟩
    case round =>
      clear HU
      obtain ⟨k, g1, c1, hk, rfl, rfl, hu⟩ := hrel
      have HU := Lib.hid hu
      obtain ⟨⟨p0, p1, p2⟩, _⟩ := hu.p.tri3
      have hpl := hu.p.lt
      clear hu
      by_cases hlt : k + 1 < n
      · obtain ⟨gS, rfl, hrS⟩ := HU.out.s.row (by omega)
        have hgS := HAL.out gS rfl (by omega)
        have s0 := hrS.cell (i := k) (by omega)
        have s1 := hrS.cell (i := k + 1) hlt
        have z0 : (sc ss k) = .string (rowS ss k) := rfl
        have z1 : (sc ss (k + 1)) = .string (rowS ss (k + 1)) := rfl
        rw [z0] at s0
        rw [z1] at s1
        have HT := Lib.hid (HC.out.two hlt)
        have HQ : Hid (runsL (dfL (rowS ss k) (rowS ss (k + 1)) N) = runsAt ss N k) := Lib.hid rfl
        have hgl := HU.out.o.lt
        clear hrS z0 z1
        generalize rowS ss k = sA at *
        generalize rowS ss (k + 1) = sB at *
        have i0 : (0 : Int) ≤ (k : Int) := Int.natCast_nonneg _
        have i1 : (k : Int) < (n : Int) := by omega
        have i2 : ((k + 1 : Nat) : Int) < (n : Int) := by omega
        have i3 : (0 : Int) ≤ ((k + 1 : Nat) : Int) := Int.natCast_nonneg _
        have i5 : decide (((k + 1 : Nat) : Int) < (n : Int)) = true := decide_eq_true i2
        have HI4 := Lib.hid (w64n k (by omega))
        generalize hkk : k + 1 = k2 at *
        have HKK := Lib.hid hkk
        clear hkk
        obtain ⟨i4, i4'⟩ := HI4.out
        go_wp2_with fail
        refine (sCardOk_any _ _ _ _ _ _ _ HL.out hm HU.out.s).mono ?_
        rw [HO.out]
        rintro e w2 ⟨rfl, hb⟩
        have HU : Hid (CuS w w.heap.size 0 0 n c g1 c1 (some ⟨gS, 0, none⟩) ss (cutsN ss N k) w2 d f) := Lib.hid ⟨HU.out.p.below hb HU.out.p.lt, HU.out.s.below hb, HU.out.b.trans (hb.mono HU.out.b.size), HU.out.o.below hb, HU.out.gp⟩
        have hsz := hb.size
        have s0 := (hb.cell (p := ⟨gS, k, none⟩) (World.block_lt_of_cell? _ _ s0)).trans s0
        have s1 := (hb.cell (p := ⟨gS, k2, none⟩) (World.block_lt_of_cell? _ _ s1)).trans s1
        have p0 := (hb.cell (p := ⟨w.heap.size, 0, none⟩) hpl).trans p0
        have p1 := (hb.cell (p := ⟨w.heap.size, 1, none⟩) hpl).trans p1
        have p2 := (hb.cell (p := ⟨w.heap.size, 2, none⟩) hpl).trans p2
        have hgl : w.heap.size ≤ g1 ∧ g1 < w2.heap.size := by omega
        clear hb hsz hpl
        go_wp2_with fail
        refine wp_tail_quiet 11 (by kernel_rfl) (by kernel_rfl) ?_
        simp only [List.take_succ_cons, List.take_zero, List.drop_succ_cons, List.drop_zero]
        repeat (go_big_quiet_step (fail))
        refine wpQuiet_nil ?_
        go_wp2_with fail
        refine (sCutRuns_any sA sB N _ HT.out).mono ?_
        rw [HQ.out]
        intro e w3 hgr
        obtain ⟨gR, aR, cR, rfl, hgR, hps, hb⟩ := hgr.prs
        have hb' : Below w2.heap.size w2 w3 := ((Below.refl _ _).drew).trans hb
        clear hgr i4 i4'
        have HGR := Lib.hid hgR
        have HPS := Lib.hid hps
        have HU3 : Hid (CuS w w.heap.size 0 0 n c g1 c1 (some ⟨gS, 0, none⟩) ss (cutQ ss N k 0) w3 d f) := Lib.hid (by rw [cutQ_zero]; exact ⟨HU.out.p.below hb' HU.out.p.lt, HU.out.s.below hb', HU.out.b.trans (hb'.mono HU.out.b.size), HU.out.o.below hb', HU.out.gp⟩)
        have hsz : w2.heap.size ≤ w3.heap.size := hb'.size
        have HZ : Hid ((cutQ ss N k 0).length = (cutsN ss N k).length) := Lib.hid (by rw [cutQ_zero])
        have HOKR := Lib.hid (runsAt_ok ss N k)
        have HRL := Lib.hid (runsAt_len ss N k)
        clear hgR hps hb hb' s0 s1 p0 p1 p2
        clear HU
        rw [← HZ.out]
        go_wp2_with fail
        rename World => wo
        go_loopw [3, 6] (fun v i wi => ∃ (q g2 c2 : Nat), q ≤ (runsAt ss N k).length ∧ i = .int .i64 q ∧ v = .slice (some ⟨g2, 0, none⟩) (cutQ ss N k q).length c2 ∧ CuS w w.heap.size 0 0 n c g2 c2 (some ⟨gS, 0, none⟩) ss (cutQ ss N k q) wi d f ∧ PrS wi w2.heap.size wo.heap.size gR (runsAt ss N k).length (runsAt ss N k) ∧ (g2 < w2.heap.size ∨ wo.heap.size ≤ g2) ∧ wo.heap.size ≤ wi.heap.size) (fun _ i _ => (runsAt ss N k).length - (intOf i).toNat)
        case atStart => exact ⟨0, _, _, Nat.zero_le _, rfl, rfl, HU3.out, HPS.out, by omega, Nat.le_refl _⟩
        case round =>
          rename World => wi
          clear HU3 HPS
          obtain ⟨q, g2, c2, hq, rfl, rfl, hu, hps, hg2, hwi⟩ := hrel
          have HU := Lib.hid hu
          have HPS := Lib.hid hps
          clear hu hps
          obtain ⟨⟨p0, p1, p2⟩, _⟩ := HU.out.p.tri3
          have hpl := HU.out.p.lt
          have hll := cutQ_len ss N k q (by omega) hN16
          obtain ⟨rl, hrl⟩ : ∃ m, (runsAt ss N k).length = m := ⟨_, rfl⟩
          rw [hrl] at hq ⊢
          have hrb : rl ≤ 16 := by have := HRL.out; rw [hrl] at this; omega
          by_cases hlq : q < rl
          · obtain ⟨x, av, bv, e0, e1, e2, hab, hbN, hr1, hr2⟩ := HPS.out.at rfl (by rw [hrl]; exact hlq) HOKR.out
            have hga := HGR.out (by rw [hrl]; omega)
            subst hga
            have HNX := Lib.hid (cutQ_succ hr1 hr2)
            clear hr1 hr2
            have j0 : (0 : Int) ≤ (q : Int) := Int.natCast_nonneg _
            have j1 : (q : Int) < (rl : Int) := by omega
            have j2 : IntKind.i64.wrap ((bv : Int) + 1) = (bv : Int) + 1 := IntWalk.i64_in _ (by omega)
            have HRE := Lib.hid hrl
            clear hrl
            have HRW := Lib.hid ((Row.new3 wi (.int .i64 (k2 : Int)) (.int .i64 (av : Int)) (.int .i64 ((bv : Int) + 1)) 51).drew)
            have hbx := (Below.box wi (.cells #[.int .i64 (k2 : Int), .int .i64 (av : Int), .int .i64 ((bv : Int) + 1)] 51 (0, 0))).drew
            have HOW : Hid (Own3 (wi.alloc (.cells #[.int .i64 (k2 : Int), .int .i64 (av : Int), .int .i64 ((bv : Int) + 1)] 51 (0, 0))).drew w.heap.size 51 g2 (cutQ ss N k q).length c2 (cv (cutQ ss N k q))) := Lib.hid (HU.out.o.below hbx)
            have HBX := Lib.hid hbx
            clear hbx
            obtain ⟨i4, i4'⟩ := HI4.out
            go_wp2_with fail
            go_region_law (refine step_append_three rfl (.tmp 38) (.tmp 55) 26 rfl Try.underlying26 infoCut rfl (by omega) (by simp [Act.eval, Act.put]) HOW.out (by omega) (by simp [Act.eval, Act.put]) HRW.out (fun i _ => by unfold tri; split <;> (try split) <;> rfl) ?_; intro g' c' w5 o5 oo5 l5; have O5 := Lib.hid o5; have OO5 := Lib.hid oo5; have L5 := Lib.hid l5; clear o5 oo5 l5)
            all_goals
              clear i4 i4'
              have hzz : ((wi.alloc (.cells #[.int .i64 (k2 : Int), .int .i64 (av : Int), .int .i64 ((bv : Int) + 1)] 51 (0, 0))).drew).heap.size = wi.heap.size + 1 := by simp
              have hgl2 := HU.out.o.lt
              have h5s := OO5.out.size
              have hl5 := L5.out
              rw [hzz] at h5s hl5
              have hbw := HBX.out
              have hpne := HU.out.gp
              have HCL : Hid ((cutQ ss N k (q + 1)).length = (cutQ ss N k q).length + 1) := Lib.hid (by rw [HNX.out, List.length_append]; rfl)
              have HUF : Hid (CuS w w.heap.size 0 0 n c g' c' (some ⟨gS, 0, none⟩) ss (cutQ ss N k (q + 1)) w5 d f) := Lib.hid
                ⟨OO5.out.row (HU.out.p.below hbw hpl) (by omega), OO5.out.sl (HU.out.s.below hbw) (fun b hb _ => by
                  simp only [Option.some.injEq] at hb
                  subst hb
                  show gS ≠ g2
                  omega), HU.out.b.trans ((hbw.mono HU.out.b.size).trans (OO5.out.toBelow hgl2.1 (by rw [hzz]; omega))), by rw [HCL.out, HNX.out, ← cv_push, HKK.out]; exact O5.out, by omega⟩
              have HPF := Lib.hid ((HPS.out.below hbw).only OO5.out hg2)
              go_wp2
              go_roundw
              case rel => exact ⟨q + 1, g', c', by omega, by go_num, by rw [HCL.out], HUF.out, by have := HPF.out; rw [HRE.out] at this; exact this, by omega, by omega⟩
              case measure => simp [intOf]; omega
          · have hq' : q = rl := by omega
            subst hq'
            have j1 : ¬ (q : Int) < (q : Int) := by omega
            have hall : cutQ ss N k q = cutsN ss N (k + 1) := by rw [← hrl]; exact cutQ_all ss N k
            rw [hall]
            have HUE : Hid (CuS w w.heap.size 0 0 n c g2 c2 (some ⟨gS, 0, none⟩) ss (cutsN ss N (k + 1)) wi d f) := Lib.hid (by rw [← hall]; exact HU.out)
            clear hall hrl HU
            go_wp2
            go_roundw
            case rel => exact ⟨k + 1, g2, c2, by have := HKK.out; omega, by have := HKK.out; first | (congr 1; omega) | (congr 1; done) | go_num, rfl, HUE.out⟩
            case measure => have := HKK.out; simp [intOf]; omega
      · have hk' : n - 1 = k := by omega
        have i1 : decide (((k : Int) + 1) < (n : Int)) = false := decide_eq_false (by omega)
        have i2 : ¬ ((k : Int) + 1) < (n : Int) := by omega
        go_wp2
        go_ret
        rw [HV.out, hk']
        exact GetC.own HU.out.o rfl (Nat.le_refl _) HU.out.b
end Go.Proofs.Ytlplfpoggifadaa
