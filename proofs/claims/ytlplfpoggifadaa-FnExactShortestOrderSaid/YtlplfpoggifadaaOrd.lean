/-
  The shortest order in the program: contracts of its closure, of orders and of ShortestOrder.
  By an AI agent.
-/
import Derived.Test.YtlplfpoggifadaaShort
import Derived.Test.YtlplfpoggifadaaNearI
import Derived.Test.YtlplfpoggifadaaOwnA
import Derived.Test.YtlplfpoggifadaaShelf
import Derived.Lib.OwnBridge
namespace Go.Proofs.Ytlplfpoggifadaa
open Go.ChangeShapes Go.WideShapes Go.ChangeAt Go.RowKit Go.Joins Go.Deep
set_option maxRecDepth 100000
set_option linter.unusedVariables false

theorem clone_any (a : Option Addr) (n c : Nat) (L : List Int) (w : World) (hl : L.length = n) (hm : n ≤ 1048576) (hR : SlR w a n (ic L)) :
    Calls Try.prog 51 #[.slice a n c] w fun e w' => ∃ a' c', e = .returned (.slice a' n c') ∧ OwnA w' w.heap.size 3 a' n c' (L.map (Value.int .i64)) ∧ Below w.heap.size w w' := by
  by_cases h0 : n = 0
  · have hL : L = [] := List.length_eq_zero_iff.1 (by omega)
    subst hL
    subst h0
    cases a with
    | none =>
      refine (sh_slices_Clone_int_nil 0 c w).mono ?_
      rintro e w' ⟨rfl, rfl⟩
      exact ⟨none, 0, rfl, OwnA.nil _ _ _, Below.refl _ _⟩
    | some x =>
      refine (sh_slices_Clone_int_zero x c w).mono ?_
      rintro e w' ⟨v, rfl, hown, hnn, hb⟩
      obtain ⟨g, cap, rfl, _⟩ := Lib.holds_of_ownsRow (enc := Value.int .i64) (zs := []) hown hnn
      exact ⟨_, _, rfl, hown, hb⟩
  · obtain ⟨g, rfl, hr⟩ := hR.row (by omega)
    refine (sh_slices_Clone_int g 0 n c L w (by omega) (by omega) (fun j hj => by rw [Nat.zero_add]; exact hr.cell (by omega))).mono ?_
    rintro e w' ⟨v, rfl, hown, hnn, hb⟩
    rw [← hl, List.take_length, hl] at hown
    obtain ⟨g', cap, rfl, _⟩ := Lib.holds_of_ownsRow (enc := Value.int .i64) hown hnn
    exact ⟨_, _, rfl, hown, hb⟩
theorem OwnA.ics {w : World} {B n c : Nat} {e : TypeId} {a : Option Addr} {zs : List Int} (h : OwnA w B e a n c (zs.map (Value.int .i64))) : SlR w a n (ic zs) :=
  h.row.congr fun i hi => by
    have hl := h.len
    rw [List.length_map] at hl
    unfold ic
    simp [List.getD, hl ▸ hi]
set_option maxHeartbeats 2000000 in
theorem iWayOf_sl (g n c : Nat) (ps : List DCut) (α : Option Addr) (m d : Nat) (ord : List Int) (w : World) (hl : ps.length = n) (hm : n ≤ 1048576) (hR : Row w g (n * 3) (cc ps)) (hl2 : ord.length = m) (hm2 : m ≤ 1048576) (hO : SlR w α m (ic ord)) :
    Calls Try.prog 29 #[.slice (some ⟨g, 0, none⟩) n c, .slice α m d] w fun e w' => e = .returned (.int .i64 (wayOf ps ord)) ∧ Below w.heap.size w w' := by
  have HL := Lib.hid hl
  have HL2 := Lib.hid hl2
  have HR := Lib.hid hR
  have HO := Lib.hid hO
  clear hR hO
  by_cases h1 : cAll ps = true ∧ n ≤ 8
  · obtain ⟨ho, h8⟩ := h1
    have HC := Lib.hid ho
    have HD : Hid ((cAll ps && decide ((n : Int) ≤ 8)) = true) := Lib.hid (by rw [ho]; simp; omega)
    by_cases hmn : m = n
    · have HV := Lib.hid (fun h4 => wayOf_yes (ps := ps) (ord := ord) ho (by rw [hl]; exact h8) (by rw [hl, hl2]; exact hmn) h4)
      have HMN := Lib.hid hmn
      have t2 : ((m : Int) != (n : Int)) = false := by simp; omega
      have hmn' : m ≤ n := by omega
      clear ho hl hl2 hmn
      go_enter Try.func29, Try.ntmps29
      obtain ⟨i0, hi0, hz0, hz1, hz2⟩ := info_parts infoBool
      have MK : ∀ W : World, (Instr.makeSlice 79 (.int .i64 (n : Int)) (.int .i64 (n : Int))).run Try.prog W = .ok (.slice (some ⟨W.heap.size, 0, none⟩) n n) (W.alloc (.cells (madeCells #[.bool false] n) 4)) := fun W => by
        have := run_make (P := Try.prog) W 79 4 i0 _ Try.underlying79 hi0 hz0 .i64 .i64 n n (by omega) (Int.le_refl _) (by rw [hz2]; omega) (by omega)
        simpa [hz1, Value.cells] using this
      go_upto_region 3 with (go_at_call 48; refine (areCuts_any _ _ _ _ _ _ HL.out hm HR.out).mono ?_; rw [HD.out]; rintro e w2 ⟨rfl, hb2⟩; have HB2 := Lib.hid hb2; clear hb2)
      go_cut [5, 6] (fun s5 s6 wx => WayStart w2 ord n s5 s6 wx)
      case first =>
        go_region
        all_goals (go_wp2_with fail; go_meet; first | exact WayStart.a _ _ _ _ _ | exact WayStart.b _ _ _ _ _)
      case rest =>
        obtain ⟨bk, gu, rfl, rfl, hbk, hgu, hne, hk, hu, hb⟩ := hcut
        have HB0 := Lib.hid (HB2.out.trans (hb.mono HB2.out.size))
        have HGU : Hid (w.heap.size ≤ gu) := Lib.hid (Nat.le_trans HB2.out.size hgu)
        have HBK : Hid (w.heap.size ≤ bk) := Lib.hid (Nat.le_trans HB2.out.size hbk)
        have HNE := Lib.hid hne
        have HK0 := Lib.hid hk
        have HU0 := Lib.hid hu
        clear hb hgu hbk hne hk hu MK
        go_wp2
        go_loopw [25] (fun i wr => ∃ j : Nat, j ≤ m ∧ i = .int .i64 j ∧ (∀ q, q < j → stepOk ord ps.length q = true) ∧ Row wr bk 3 (kn (wst ps ord j)) ∧ Row wr gu n (uc ord j) ∧ Below w.heap.size w wr) (fun i _ => m - (intOf i).toNat)
        case atStart => exact ⟨0, Nat.zero_le _, rfl, fun q h => absurd h (Nat.not_lt_zero q), HK0.out, HU0.out, HB0.out⟩
        case round =>
          obtain ⟨j, hj, rfl, hok, hKn, hW, hB⟩ := hrel
          have HKn := Lib.hid hKn
          clear hKn
          have HK := Lib.hid hok
          have HW := Lib.hid hW
          have HB := Lib.hid hB
          have hbd := wst_bd HC.out j hok
          obtain ⟨hat, hn0, hn1⟩ := hbd
          have HAT := Lib.hid hat
          clear hok hW hB hat
          by_cases hlt : j < m
          · obtain ⟨b, rfl, hro⟩ := HO.out.row (by omega)
            have hbl := hro.lt
            have hgl := HR.out.lt
            have hgu := HGU.out
            have o0 := (hro.below HB.out hbl).cell hlt
            have HRO := Lib.hid (hro.below HB.out hbl)
            have HRG := Lib.hid (HR.out.below HB.out hgl)
            clear hro
            unfold ic at o0
            cases hst : stepOk ord n j
            · have HV2 := Lib.hid (wayOf_bad (ps := ps) (ord := ord) (m := j) (by rw [HL2.out]; exact hlt) (by rw [HL.out]; exact hst))
              have hbad := orders_bad hst
              clear hst
              rcases hbad with h | ⟨q0, q1, hu⟩
              · generalize ord.getD j 0 = q at *
                go_wp2_with (go_at_call 58; (first | refine (within_t _ _ _ _ (by omega) (by omega)).mono ?_ | refine (within_f _ _ _ _ (by omega)).mono ?_); rintro e w' ⟨rfl, rfl⟩)
                go_ret
                exact ⟨ret_int HV2.out.symm, HB.out⟩
              · obtain ⟨i, hi⟩ : ∃ i : Nat, ord.getD j 0 = (i : Int) := ⟨(ord.getD j 0).toNat, by omega⟩
                rw [hi] at o0 q0 q1 hu
                have hin : i < n := by omega
                have u0 := HW.out.cell hin
                unfold uc at u0
                rw [hu] at u0
                clear hu hi
                have i1 : (i : Int) < (n : Int) := by omega
                go_wp2_with (go_at_call 58; (first | refine (within_t _ _ _ _ (by omega) (by omega)).mono ?_ | refine (within_f _ _ _ _ (by omega)).mono ?_); rintro e w' ⟨rfl, rfl⟩)
                go_ret
                exact ⟨ret_int HV2.out.symm, HB.out⟩
            · obtain ⟨q0, q1, hu⟩ := stepOk_iff.1 hst
              have HK2 : Hid (∀ q, q < j + 1 → stepOk ord ps.length q = true) := Lib.hid (by
                intro q hq
                by_cases e : q = j
                · rw [e, HL.out]; exact hst
                · exact HK.out q (by omega))
              obtain ⟨i, hi⟩ : ∃ i : Nat, ord.getD j 0 = (i : Int) := ⟨(ord.getD j 0).toNat, by omega⟩
              have HW2 := Lib.hid (uc_set (i := i) HW.out (by rw [HL2.out]; exact hlt) hi)
              have hti : (ord.getD j 0).toNat = i := by omega
              have HS : Hid (wst ps ord (j + 1) = ((ps.getD i default).k, goP (wst ps ord j).1 (wst ps ord j).2.1 (ps.getD i default), (wst ps ord j).2.2 + goW (wst ps ord j).1 (wst ps ord j).2.1 (ps.getD i default))) := Lib.hid (by
                show ((ps.getD (ord.getD j 0).toNat default).k, _, _) = _
                rw [hti])
              have HI : Hid (ic ord j = .int .i64 (i : Int)) := Lib.hid (by unfold ic; rw [hi])
              rw [hi] at o0 q0 q1 hu
              have hin : i < n := by omega
              have u0 := HW.out.cell hin
              unfold uc at u0
              rw [hu] at u0
              have f0 := HW.out.frozen i
              have hx := cAll_at HC.out (k := i) (by rw [HL.out]; exact hin)
              have hwb := goW_bd HAT.out hx
              have HX := Lib.hid hx
              obtain ⟨c0, c1, c2⟩ := HRG.out.cut hin
              have i1 : (i : Int) < (n : Int) := by omega
              have n1 : b ≠ gu := by omega
              have n2 : g ≠ gu := by omega
              have n3 : bk ≠ gu := HNE.out
              clear hst hu hi hti hx HK
              obtain ⟨hw0, hw1⟩ := hwb
              have CG : Hid (∀ W : World, Row W g (n * 3) (cc ps) → W.cell? ⟨g, i * 3, none⟩ = some (.int .i64 (ps.getD i default).k) ∧ W.cell? ⟨g, i * 3 + 1, none⟩ = some (.int .i64 (ps.getD i default).g) ∧ W.cell? ⟨g, i * 3 + 2, none⟩ = some (.int .i64 (ps.getD i default).s)) := Lib.hid (fun W h => h.cut hin)
              generalize ps.getD i default = x at *
              have W3 : Hid (Below w.heap.size w (wr.setCell ⟨gu, i, none⟩ (.bool true))) := Lib.hid (HB.out.setCell hgu _)
              have O3 := Lib.hid (HRO.out.set_other (p := ⟨gu, i, none⟩) n1 (.bool true))
              have G3 := Lib.hid (HRG.out.set_other (p := ⟨gu, i, none⟩) n2 (.bool true))
              have hk0 := HKn.out
              unfold kn at hk0
              obtain ⟨⟨k0, k1, k2⟩, k3, k4, k5⟩ := hk0.tri3
              have K3 := Lib.hid (hk0.set_other (p := ⟨gu, i, none⟩) n3 (.bool true))
              clear hk0
              have n4 := HBK.out
              have n5 : bk ≠ g := by omega
              go_upto_region 10 with (go_at_call 58; (first | refine (within_t _ _ _ _ (by omega) (by omega)).mono ?_ | refine (within_f _ _ _ _ (by omega)).mono ?_); rintro e w' ⟨rfl, rfl⟩)
              go_region_law (go_simp; go_at_call 57; refine (cut_any _ _ _ x _ HAT.out HX.out hn0 (by omega)).mono ?_; rintro e w4 ⟨rfl, hb4⟩; have hb4' := Lib.hid hb4; have K4 := Lib.hid (K3.out.drew.below hb4 K3.out.lt); have U4 := Lib.hid (HW2.out.drew.below hb4 HW2.out.lt); clear k0 k1 k2 k3 k4 k5 hb4; obtain ⟨⟨k0, k1, k2⟩, k3, k4, k5⟩ := K4.out.tri3)
              all_goals
                have n6 : gu ≠ bk := Ne.symm n3
                go_wp2
                go_roundw
                case rel => exact ⟨j + 1, by omega, by go_num, HK2.out, by rw [HS.out]; exact K4.out.tset3, ((U4.out.set_other n6 _).set_other n6 _).set_other n6 _, (((W3.out.drew.trans (hb4'.out.mono W3.out.drew.size)).setCell n4 _).setCell n4 _).setCell n4 _⟩
                case measure => simp [intOf]; omega
          · have hj' : j = m := by omega
            subst hj'
            have HV2 := Lib.hid (HV.out (by intro q hq; exact HK.out q (by rw [HL2.out] at hq; exact hq)))
            have hk0 := HKn.out
            unfold kn at hk0
            obtain ⟨⟨k0, k1, k2⟩, _⟩ := hk0.tri3
            clear hk0
            go_wp2
            go_ret
            exact ⟨ret_int (by rw [HV2.out, HL2.out]), HB.out⟩
    · have HC := Lib.hid ho
      have HV := Lib.hid (wayOf_no (ps := ps) (ord := ord) (.inr (.inr (by rw [hl, hl2]; exact hmn))))
      have t2 : ((m : Int) != (n : Int)) = true := by simp; omega
      clear ho hl hl2 hmn
      go_enter Try.func29, Try.ntmps29
      go_wp2_with (go_at_call 48; refine (areCuts_any _ _ _ _ _ _ HL.out hm HR.out).mono ?_; rw [HD.out]; rintro e w2 ⟨rfl, hb2⟩)
      go_ret
      exact ⟨ret_int HV.out.symm, hb2⟩
  · have hc : cAll ps = false ∨ 8 < n := by
      cases e : cAll ps
      · exact .inl rfl
      · right; rw [e] at h1; simp only [true_and] at h1; omega
    have HD : Hid ((cAll ps && decide ((n : Int) ≤ 8)) = false) := Lib.hid (by
      rcases hc with h | h
      · rw [h]; rfl
      · have : ¬ (n : Int) ≤ 8 := by omega
        rw [decide_eq_false this, Bool.and_false])
    have HV := Lib.hid (wayOf_no (ps := ps) (ord := ord) (by rw [hl]; rcases hc with h | h <;> simp [h]))
    clear h1 hc hl hl2
    go_enter Try.func29, Try.ntmps29
    go_wp2_with (go_at_call 48; refine (areCuts_any _ _ _ _ _ _ HL.out hm HR.out).mono ?_; rw [HD.out]; rintro e w2 ⟨rfl, hb2⟩)
    go_ret
    exact ⟨ret_int HV.out.symm, hb2⟩
/-- What a world holds while the orders are tried: the list at block g, its variable at PL; the best order's variable at PB, its way's at PQ. -/
structure TrS (PL PB PQ g n c : Nat) (ps : List DCut) (st : Bst) (w : World) : Prop where
  l : w.cell? ⟨PL, 0, none⟩ = some (.slice (some ⟨g, 0, none⟩) n c)
  cuts : Row w g (n * 3) (cc ps)
  best : ∃ (aB : Option Addr) (cB : Nat), Row w PB 1 (fun _ => .slice aB st.1.length cB) ∧ SlR w aB st.1.length (ic st.1) ∧ Fresh (PQ + 1) aB st.1.length
  way : Row w PQ 1 (fun _ => .int .i64 st.2)
  ord : PL < PB ∧ g < PB ∧ PB < PQ
theorem TrS.below {PL PB PQ g n c : Nat} {ps : List DCut} {st : Bst} {w w' : World} (h : TrS PL PB PQ g n c ps st w) (hb : Below w.heap.size w w') : TrS PL PB PQ g n c ps st w' := by
  obtain ⟨aB, cB, h1, h2, h3⟩ := h.best
  exact ⟨(hb.cell (World.block_lt_of_cell? _ _ h.l)).trans h.l, h.cuts.below hb h.cuts.lt, ⟨aB, cB, h1.below hb h1.lt, h2.below hb, h3⟩, h.way.below hb h.way.lt, h.ord⟩
def FndP (PL PB PQ g n c : Nat) (ps : List DCut) (st : Bst) (w : World) (e : Ending) (w' : World) : Prop := e = .returned (.tuple #[]) ∧ TrS PL PB PQ g n c ps st w' ∧ Reg PB (PQ + 1) w w'
theorem Fresh.sl {lo hi B N : Nat} {a : Option Addr} {c : Nat → Value} {w w' : World} (h : Reg lo hi w w') (hr : SlR w a N c) (f : Fresh hi a N) : SlR w' a N c := h.high hr f
set_option maxHeartbeats 1600000 in
theorem found_any (PL PB PQ g n c : Nat) (ps : List DCut) (st : Bst) (α : Option Addr) (d : Nat) (L : List Int) (w : World) (hS : TrS PL PB PQ g n c ps st w) (hl : ps.length = n) (hn : n ≤ 6) (hll : L.length = n) (hL : SlR w α n (ic L)) (hF : Fresh (PQ + 1) α n) (hst : -1 ≤ st.2 ∧ st.2 ≤ 3000) (hwy : 0 ≤ wayOf ps L ∧ wayOf ps L ≤ 3000) :
    Calls Try.prog 50 #[.slice α n d, .pointer (some ⟨PL, 0, none⟩), .pointer (some ⟨PQ, 0, none⟩), .pointer (some ⟨PB, 0, none⟩)] w (FndP PL PB PQ g n c ps (upd st (L, wayOf ps L)) w) := by
  have HS := Lib.hid hS
  have HL := Lib.hid hL
  have HLL := Lib.hid hll
  have HPL := Lib.hid hl
  obtain ⟨o1, o2, o3⟩ := hS.ord
  have c0 := hS.l
  have hpq := hS.way.lt
  clear hS hL hll hl
  go_enter Try.func50, Try.ntmps50
  go_wp2_with fail
  refine (iWayOf_sl g n c ps α n d L _ HPL.out (by omega) HS.out.cuts HLL.out (by omega) HL.out).mono ?_
  have HU : Hid (upd st (L, wayOf ps L) = if st.2 < 0 ∨ wayOf ps L < st.2 then (L, wayOf ps L) else st) := Lib.hid rfl
  obtain ⟨x, hx⟩ : ∃ x, wayOf ps L = x := ⟨_, rfl⟩
  rw [hx] at hwy HU ⊢
  rintro e w1 ⟨rfl, hb⟩
  have HS1 := Lib.hid (HS.out.below hb)
  have HL1 := Lib.hid (HL.out.below hb)
  have HB1 := Lib.hid hb
  have hs1 := hb.size
  obtain ⟨b, y⟩ := st
  have q0 : w1.cell? ⟨PQ, 0, none⟩ = some (.int .i64 y) := HS1.out.way.cell (i := 0) (by omega)
  have fq := HS1.out.way.frozen 0
  obtain ⟨aB, cB, hb1, _, _⟩ := HS1.out.best
  have fb := hb1.frozen 0
  have b0 := hb1.cell (i := 0) (by omega)
  have hbl := hb1.lt
  have hst1 : -1 ≤ y ∧ y ≤ 3000 := hst
  obtain ⟨y0, y1⟩ := hst1
  have HX := Lib.hid hx
  clear hb c0 hx hb1 hst
  have STORE : y < 0 ∨ x < y → Calls Try.prog 51 #[.slice α n d] w1 (fun e w' => ∃ a' c', e = .returned (.slice a' n c') ∧ OwnA w' w1.heap.size 3 a' n c' (L.map (Value.int .i64)) ∧ Below w1.heap.size w1 w') := fun _ => clone_any α n d L w1 HLL.out (by omega) HL1.out
  have HST := Lib.hid STORE
  clear STORE
  have FIN : ∀ (a' : Option Addr) (c' : Nat) (w2 : World), (y < 0 ∨ x < y) → OwnA w2 w1.heap.size 3 a' n c' (L.map (Value.int .i64)) → Below w1.heap.size w1 w2 → FndP PL PB PQ g n c ps (upd (b, y) (L, x)) w (.returned (.tuple #[])) ((w2.setCell ⟨PB, 0, none⟩ (.slice a' n c')).setCell ⟨PQ, 0, none⟩ (.int .i64 x)) := by
    intro a' c' w2 hc hown hb2
    have h2 := HS1.out.below hb2
    have hz := hb2.size
    obtain ⟨aB2, cB2, k1, _, _⟩ := h2.best
    have k2 := h2.way
    refine ⟨rfl, ?_, ?_⟩
    · rw [HU.out, if_pos hc]
      have hfr : Fresh (PQ + 1) a' n := hown.fresh _ (by omega)
      have hsl := hown.ics
      refine ⟨?_, ?_, ⟨a', c', ?_, ?_, by show Fresh _ _ L.length; rw [HLL.out]; exact hfr⟩, ?_, h2.ord⟩
      · exact (World.cell?_of_block (a := ⟨PL, 0, none⟩) (Below.heap_setCell _ ⟨PQ, 0, none⟩ _ PL (by show PL ≠ PQ; omega))).trans ((World.cell?_of_block (a := ⟨PL, 0, none⟩) (Below.heap_setCell _ ⟨PB, 0, none⟩ _ PL (by show PL ≠ PB; omega))).trans h2.l)
      · exact (h2.cuts.set_other (by show g ≠ PB; omega) _).set_other (by show g ≠ PQ; omega) _
      · have := ((k1.set 0 (.slice a' n c')).set_other (p := ⟨PQ, 0, none⟩) (by show PB ≠ PQ; omega) (.int .i64 x)).congr (d := fun _ => .slice a' n c') (fun i hi => by have : i = 0 := (by omega); subst this; rfl)
        show Row _ PB 1 (fun _ => .slice a' L.length c')
        rw [HLL.out]; exact this
      · show SlR _ a' L.length (ic L)
        rw [HLL.out]
        have keep : ∀ (p : Addr) (v : Value) (wx : World), SlR wx a' n (ic L) → p.block < PQ + 1 → SlR (wx.setCell p v) a' n (ic L) := fun p v wx h hp => by
          rcases h with h | ⟨g', hg', hr⟩
          · exact .inl h
          · rcases hfr with hf | ⟨g2, hg2, hB⟩
            · exact .inl hf
            · rw [hg'] at hg2
              simp only [Option.some.injEq, Addr.mk.injEq, and_true] at hg2
              exact .inr ⟨g', hg', hr.set_other (by omega) v⟩
        exact keep _ _ _ (keep _ _ _ hsl (by show PB < _; omega)) (by show PQ < _; omega)
      · exact ((k2.set_other (p := ⟨PB, 0, none⟩) (by show PQ ≠ PB; omega) _).set 0 (.int .i64 x)).congr (fun i hi => by have : i = 0 := (by omega); subst this; rfl)
    · exact (((Reg.ofBelow HB1.out).trans (Reg.ofBelow hb2)).set 0 _ (by omega) (by omega)).set 0 _ (by omega) (by omega)
  have HFIN := Lib.hid FIN
  clear FIN
  have HSK : Hid (¬ (y < 0 ∨ x < y) → FndP PL PB PQ g n c ps (upd (b, y) (L, x)) w (.returned (.tuple #[])) w1) := Lib.hid (fun hc => by
    refine ⟨rfl, ?_, Reg.ofBelow HB1.out⟩
    rw [HU.out, if_neg hc]
    exact HS1.out)
  have HB2 : Hid (∀ (w2 : World), Below w1.heap.size w1 w2 → (w2.cell? ⟨PB, 0, none⟩ = w1.cell? ⟨PB, 0, none⟩ ∧ w2.frozen? ⟨PB, 0, none⟩ = false ∧ w2.cell? ⟨PQ, 0, none⟩ = w1.cell? ⟨PQ, 0, none⟩ ∧ w2.frozen? ⟨PQ, 0, none⟩ = false)) := Lib.hid (fun w2 hb => by
    have h2 := HS1.out.below hb
    obtain ⟨aB2, cB2, k1, _, _⟩ := h2.best
    exact ⟨hb.cell (p := ⟨PB, 0, none⟩) hbl, k1.frozen 0, hb.cell (p := ⟨PQ, 0, none⟩) HS1.out.way.lt, h2.way.frozen 0⟩)
  by_cases hy : y < 0
  · have t1 : decide (y < 0) = true := decide_eq_true hy
    go_wp2_with (go_at_call 51; refine (HST.out (.inl hy)).mono ?_; rintro e w2 ⟨a', c', rfl, hown, hb2⟩; have HOW := Lib.hid hown; have HBB := Lib.hid hb2; obtain ⟨k1, k2, k3, k4⟩ := HB2.out w2 hb2; rw [b0] at k1; rw [q0] at k3; clear hown hb2)
    go_end0
    rw [HX.out]
    exact HFIN.out _ _ _ (.inl hy) HOW.out HBB.out
  · have t1 : decide (y < 0) = false := decide_eq_false hy
    by_cases hxy : x < y
    · have t2 : decide (x < y) = true := decide_eq_true hxy
      go_wp2_with (go_at_call 51; refine (HST.out (.inr hxy)).mono ?_; rintro e w2 ⟨a', c', rfl, hown, hb2⟩; have HOW := Lib.hid hown; have HBB := Lib.hid hb2; obtain ⟨k1, k2, k3, k4⟩ := HB2.out w2 hb2; rw [b0] at k1; rw [q0] at k3; clear hown hb2)
      go_end0
      rw [HX.out]
      exact HFIN.out _ _ _ (.inr hxy) HOW.out HBB.out
    · have t2 : decide (x < y) = false := decide_eq_false hxy
      go_wp2_with fail
      go_end0
      rw [HX.out]
      exact HSK.out (by omega)
theorem imQ_bd {ps : List DCut} (hc : cAll ps = true) (h8 : ps.length ≤ 6) {f : Nat} {L : List Int} {a : Bst} (hL : ordOk ps.length L) (hl : L.length + (f + 1) = ps.length) (ha : -1 ≤ a.2 ∧ a.2 ≤ 3000) (q : Nat) (hq : q ≤ ps.length) : -1 ≤ (imQ ps f L a q).2 ∧ (imQ ps f L a q).2 ≤ 3000 := by
  induction q with
  | zero => exact ha
  | succ q ih =>
    have i := ih (by omega)
    rw [imQ_succ]
    cases hcq : L.contains (q : Int)
    · rw [if_neg (by simp)]
      have hL' := hL.push (k := q) (by omega) hcq
      have hl' : (L ++ [(q : Int)]).length + f = ps.length := by rw [List.length_append, List.length_singleton]; omega
      rw [imp_srch hc (by omega) f _ _ hL' hl']
      have hp := srch_pos hc hL' hl'
      unfold upd
      split
      · omega
      · exact i
    · rw [if_pos rfl]; exact i
def fval (PL PB PQ : Nat) : Value := .func (.func 50) #[] #[.pointer (some ⟨PL, 0, none⟩), .pointer (some ⟨PQ, 0, none⟩), .pointer (some ⟨PB, 0, none⟩)]
theorem orders_zero (PL PB PQ g n c : Nat) (ps : List DCut) (hl : ps.length = n) (hn : n ≤ 6) (hc : cAll ps = true) (L : List Int) (α : Option Addr) (d : Nat) (st : Bst) (w : World) (hL : ordOk n L) (hll : L.length = n) (hS : TrS PL PB PQ g n c ps st w) (hsl : SlR w α n (ic L)) (hF : Fresh (PQ + 1) α n) (hst : -1 ≤ st.2 ∧ st.2 ≤ 3000) :
    Calls Try.prog 49 #[.int .i64 n, .slice α n d, fval PL PB PQ] w (FndP PL PB PQ g n c ps (imp ps 0 L st) w) := by
  have hw : 0 ≤ wayOf ps L ∧ wayOf ps L ≤ 3000 := by
    subst hl
    rw [wayOf_full hc (by omega) hL hll]
    have := kst_bd hc hL
    omega
  have HC := Lib.hid (found_any PL PB PQ g n c ps st α d L w hS hl hn hll hsl hF hst hw)
  have HV : Hid (imp ps 0 L st = upd st (L, wayOf ps L)) := Lib.hid rfl
  have hnn : ((n : Int) == (n : Int)) = true := by simp
  unfold fval
  clear hS hsl hF hst hw hL hll hl hc
  go_enter Try.func49, Try.ntmps49
  go_wp2_with fail
  refine HC.out.mono ?_
  rintro e w2 ⟨rfl, h2⟩
  have H2 := Lib.hid h2
  clear h2
  go_wp2_with fail
  refine bodyPost_ret (results_none rfl _ _ _) rfl ?_
  rw [HV.out]
  exact ⟨rfl, H2.out⟩
set_option maxHeartbeats 2000000 in
theorem orders_step (PL PB PQ g n c : Nat) (ps : List DCut) (hl : ps.length = n) (hn : n ≤ 6) (hc : cAll ps = true) (f : Nat)
    (ih : ∀ (L : List Int) (α : Option Addr) (d : Nat) (st : Bst) (w : World), ordOk n L → L.length + f = n → TrS PL PB PQ g n c ps st w → SlR w α L.length (ic L) → Fresh (PQ + 1) α L.length → (-1 ≤ st.2 ∧ st.2 ≤ 3000) →
      Calls Try.prog 49 #[.int .i64 n, .slice α L.length d, fval PL PB PQ] w (FndP PL PB PQ g n c ps (imp ps f L st) w))
    (L : List Int) (α : Option Addr) (d : Nat) (st : Bst) (w : World) (hL : ordOk n L) (hll : L.length + (f + 1) = n) (hS : TrS PL PB PQ g n c ps st w) (hsl : SlR w α L.length (ic L)) (hF : Fresh (PQ + 1) α L.length) (hst : -1 ≤ st.2 ∧ st.2 ≤ 3000) :
    Calls Try.prog 49 #[.int .i64 n, .slice α L.length d, fval PL PB PQ] w (FndP PL PB PQ g n c ps (imp ps (f + 1) L st) w) := by
  have HI := Lib.hid ih
  have HL := Lib.hid hL
  have HS := Lib.hid hS
  have HSL := Lib.hid hsl
  have HF := Lib.hid hF
  have HPL := Lib.hid hl
  obtain ⟨m, hm⟩ : ∃ m, L.length = m := ⟨_, rfl⟩
  have hmn : m < n := by omega
  have HB : Hid (∀ q, q ≤ n → -1 ≤ (imQ ps f L st q).2 ∧ (imQ ps f L st q).2 ≤ 3000) := Lib.hid (fun q hq => imQ_bd hc (by omega) (by rw [hl]; exact hL) (by omega) hst q (by omega))
  have HM := Lib.hid hm
  have HLL := Lib.hid hll
  have HV : Hid (imp ps (f + 1) L st = imQ ps f L st n) := Lib.hid (by rw [imp_succ, hl])
  have hnn : ((m : Int) == (n : Int)) = false := by simp; omega
  obtain ⟨o1, o2, o3⟩ := hS.ord
  have hpq := hS.way.lt
  rw [hm] at HSL HF ⊢
  clear ih hL hS hsl hF hl hc hst hll hm
  obtain ⟨fv, hfv⟩ : ∃ v, fval PL PB PQ = v := ⟨_, rfl⟩
  have HFV := Lib.hid hfv
  rw [hfv] at HI ⊢
  clear hfv
  go_enter Try.func49, Try.ntmps49
  go_wp2_with fail
  go_loopw [15] (fun i wr => ∃ q : Nat, q ≤ n ∧ i = .int .i64 q ∧ TrS PL PB PQ g n c ps (imQ ps f L st q) wr ∧ Reg PB (PQ + 1) w wr) (fun i _ => n - (intOf i).toNat)
  case atStart => exact ⟨0, Nat.zero_le _, rfl, HS.out, Reg.refl _ _ _⟩
  case round =>
    clear HS
    obtain ⟨q, hq, rfl, hS, hR⟩ := hrel
    have HS := Lib.hid hS
    have HR := Lib.hid hR
    have hsz := hR.size
    have HSL2 := Lib.hid (hR.high HSL.out HF.out)
    clear hS hR
    by_cases hlt : q < n
    · have i0 : (0 : Int) ≤ (q : Int) := Int.natCast_nonneg _
      cases hb : L.contains (q : Int)
      · have HNX : Hid (imQ ps f L st (q + 1) = imp ps f (L ++ [(q : Int)]) (imQ ps f L st q)) := Lib.hid (by rw [imQ_succ, hb, if_neg (by simp)])
        have HP := Lib.hid (HL.out.push (k := q) hlt hb)
        have HCB := Lib.hid hb
        clear hb
        have HCLN := Lib.hid (clone_any α m d L wr HM.out (by omega) HSL2.out)
        have HCON := Lib.hid (contains_int α m d L q wr HM.out (by omega) HSL2.out false HCB.out)
        go_wp2_with fail
        refine HCON.out.mono ?_
        rintro e w2 ⟨rfl, rfl⟩
        go_wp2_with fail
        refine HCLN.out.mono ?_
        rintro e w3 ⟨a', c', rfl, hown, hb3⟩
        have HO1 := Lib.hid (hown.below (Below.box w3 (.cells #[.int .i64 (q : Int)] 3 (0, 0))))
        have HC1 : Hid ((w3.alloc (.cells #[.int .i64 (q : Int)] 3 (0, 0))).cell? ⟨w3.heap.size, 0, none⟩ = some (.int .i64 (q : Int))) := Lib.hid (new_cell rfl)
        have hz3 := hb3.size
        have HB4 := Lib.hid (hb3.trans ((Below.box w3 (.cells #[.int .i64 (q : Int)] 3 (0, 0))).mono hz3))
        have hz4 : wr.heap.size ≤ (w3.alloc (.cells #[.int .i64 (q : Int)] 3 (0, 0))).heap.size := by simp; omega
        clear hown hb3
        go_wp2_with (at_builtin; refine append_a rfl (.tmp 24) (.tmp 26) 37 rfl Try.underlying37 infoInt rfl (by omega) (by simp [Act.eval]) HO1.out hz4 (by omega) (by simp [Act.eval]) HC1.out rfl ?_; intro g' c5 w5 o5 b5; have O5 := Lib.hid o5; have HB5 := Lib.hid (HB4.out.trans b5); clear o5 b5)
        have hgl := O5.out.lt
        have HLP : Hid ((L ++ [(q : Int)]).length = m + 1) := Lib.hid (by rw [List.length_append, HM.out]; rfl)
        have HSL5 : Hid (SlR w5 (some ⟨g', 0, none⟩) (L ++ [(q : Int)]).length (ic (L ++ [(q : Int)]))) := Lib.hid (by
          have := O5.out
          rw [show L.map (Value.int .i64) ++ [Value.int .i64 (q : Int)] = (L ++ [(q : Int)]).map (Value.int .i64) by simp] at this
          rw [HLP.out]
          exact this.sl)
        have HCALL := Lib.hid (HI.out (L ++ [(q : Int)]) (some ⟨g', 0, none⟩) c5 (imQ ps f L st q) w5 HP.out (by rw [HLP.out]; have := HLL.out; have := HM.out; omega) (HS.out.below HB5.out) HSL5.out (Fresh.of (by omega)) (HB.out q hq))
        rw [HLP.out, ← HNX.out] at HCALL
        refine HCALL.out.mono ?_
        rintro e w6 ⟨rfl, h6, r6⟩
        have H6 := Lib.hid h6
        have R6 := Lib.hid ((HR.out.trans (Reg.ofBelow HB5.out)).trans r6)
        clear h6 r6
        go_wp2_with fail
        go_roundw
        case rel => exact ⟨q + 1, by omega, by go_num, H6.out, R6.out⟩
        case measure => simp [intOf]; omega
      · have HNX : Hid (imQ ps f L st (q + 1) = imQ ps f L st q) := Lib.hid (by rw [imQ_succ, hb, if_pos rfl])
        have HCON := Lib.hid (contains_int α m d L q wr HM.out (by omega) HSL2.out true hb)
        clear hb
        go_wp2_with fail
        refine HCON.out.mono ?_
        rintro e w2 ⟨rfl, rfl⟩
        go_wp2_with fail
        go_roundw
        case rel => exact ⟨q + 1, by omega, by go_num, by rw [HNX.out]; exact HS.out, HR.out⟩
        case measure => simp [intOf]; omega
    · have hq' : q = n := by omega
      subst hq'
      have i1 : ¬ (q : Int) < (q : Int) := by omega
      go_wp2_with fail
      go_end0
      rw [HV.out]
      exact ⟨rfl, HS.out, HR.out⟩
theorem orders_any (PL PB PQ g n c : Nat) (ps : List DCut) (hl : ps.length = n) (hn : n ≤ 6) (hc : cAll ps = true) (f : Nat) : ∀ (L : List Int) (α : Option Addr) (d : Nat) (st : Bst) (w : World), ordOk n L → L.length + f = n → TrS PL PB PQ g n c ps st w → SlR w α L.length (ic L) → Fresh (PQ + 1) α L.length → (-1 ≤ st.2 ∧ st.2 ≤ 3000) →
      Calls Try.prog 49 #[.int .i64 n, .slice α L.length d, fval PL PB PQ] w (FndP PL PB PQ g n c ps (imp ps f L st) w) := by
  induction f with
  | zero =>
    intro L α d st w hL hll hS hsl hF hst
    have h2 : L.length = n := by omega
    rw [h2] at hsl hF ⊢
    exact orders_zero PL PB PQ g n c ps hl hn hc L α d st w hL h2 hS hsl hF hst
  | succ f ih => exact orders_step PL PB PQ g n c ps hl hn hc f ih
set_option maxHeartbeats 2000000 in
theorem iShortestOrder_any (g n c : Nat) (ps : List DCut) (w : World) (hl : ps.length = n) (hm : n ≤ 1048576) (hR : Row w g (n * 3) (cc ps)) :
    Calls Try.prog 21 #[.slice (some ⟨g, 0, none⟩) n c] w (GetL (shR ps) w) := by
  have HL := Lib.hid hl
  have hbx := Below.box w (.cells #[.slice (some ⟨g, 0, none⟩) n c] 26 (0, 0))
  have HR := Lib.hid (hR.below hbx hR.lt)
  have HB0 := Lib.hid hbx
  have hg := hR.lt
  have c0 : (w.alloc (.cells #[.slice (some ⟨g, 0, none⟩) n c] 26 (0, 0))).cell? ⟨w.heap.size, 0, none⟩ = some (.slice (some ⟨g, 0, none⟩) n c) := new_cell rfl
  clear hR hbx
  by_cases h1 : cAll ps = true ∧ n ≤ 6
  · obtain ⟨ho, h6⟩ := h1
    have HC := Lib.hid ho
    have HD : Hid ((cAll ps && decide ((n : Int) ≤ 6)) = true) := Lib.hid (by rw [ho]; simp; omega)
    have HV := Lib.hid (imp_all ho (by rw [hl]; exact h6))
    clear ho hl
    go_enter Try.func21, Try.ntmps21
    go_wp2_with fail
    refine (areCuts_any g n c 6 ps _ HL.out hm HR.out).mono ?_
    rw [HD.out]
    rintro e w1 ⟨rfl, hb⟩
    have c1 := (hb.cell (p := ⟨w.heap.size, 0, none⟩) (by simp)).trans c0
    have HR1 := Lib.hid (HR.out.below hb HR.out.lt)
    have HB1 := Lib.hid (HB0.out.trans (hb.mono HB0.out.size))
    have hz1 : w.heap.size < w1.heap.size := by have := hb.size; simp only [World.size_alloc] at this; omega
    clear hb c0 HB0 HR
    have hb3 : Below w1.heap.size w1 (((w1.alloc (.cells #[] 3 (0, 0))).alloc (.cells #[.slice (some ⟨w1.heap.size, 0, none⟩) 0 0] 37 (0, 0))).alloc (.cells #[.int .i64 (-1)] 3 (0, 0))) := ((Below.box w1 _).alloc (by simp) _).alloc (by simp; omega) _
    have c3 := (hb3.cell (p := ⟨w.heap.size, 0, none⟩) hz1).trans c1
    have hzz : (((w1.alloc (.cells #[] 3 (0, 0))).alloc (.cells #[.slice (some ⟨w1.heap.size, 0, none⟩) 0 0] 37 (0, 0))).alloc (.cells #[.int .i64 (-1)] 3 (0, 0))).heap.size = w1.heap.size + 3 := by simp
    have hS : TrS w.heap.size (w1.heap.size + 1) (w1.heap.size + 2) g n c ps ([], -1) (((w1.alloc (.cells #[] 3 (0, 0))).alloc (.cells #[.slice (some ⟨w1.heap.size, 0, none⟩) 0 0] 37 (0, 0))).alloc (.cells #[.int .i64 (-1)] 3 (0, 0))) := by
      refine ⟨c3, HR1.out.below hb3 HR1.out.lt, ⟨some ⟨w1.heap.size, 0, none⟩, 0, ?_, .inl rfl, .inl rfl⟩, ?_, by omega⟩
      · have h1 := Row.of_new (w1.alloc (.cells #[] 3 (0, 0))) #[.slice (some ⟨w1.heap.size, 0, none⟩) 0 0] 37
        have h2 : (w1.alloc (.cells #[] 3 (0, 0))).heap.size = w1.heap.size + 1 := by simp
        rw [h2] at h1
        exact (h1.alloc _).congr (fun i hi => by have : i = 0 := (by simp at hi; omega); subst this; rfl)
      · have h1 := Row.of_new ((w1.alloc (.cells #[] 3 (0, 0))).alloc (.cells #[.slice (some ⟨w1.heap.size, 0, none⟩) 0 0] 37 (0, 0))) #[.int .i64 (-1)] 3
        have h2 : ((w1.alloc (.cells #[] 3 (0, 0))).alloc (.cells #[.slice (some ⟨w1.heap.size, 0, none⟩) 0 0] 37 (0, 0))).heap.size = w1.heap.size + 2 := by simp
        rw [h2] at h1
        exact h1.congr (fun i hi => by have : i = 0 := (by simp at hi; omega); subst this; rfl)
    have HCALL := Lib.hid (orders_any w.heap.size (w1.heap.size + 1) (w1.heap.size + 2) g n c ps HL.out h6 HC.out n [] none 0 ([], -1) _ (ordOk.nil _) (by simp) hS (.inl rfl) (.inl rfl) (by show (-1 : Int) ≤ -1 ∧ (-1 : Int) ≤ 3000; omega))
    unfold fval at HCALL
    have HB3 := Lib.hid (HB1.out.trans (hb3.mono HB1.out.size))
    have hle : w.heap.size ≤ w1.heap.size + 1 := by omega
    clear hS hb3 hzz
    go_wp2_with fail
    refine HCALL.out.mono ?_
    rintro e w4 ⟨rfl, h4, r4⟩
    obtain ⟨aB, cB, k1, k2, k3⟩ := h4.best
    rw [← HL.out] at k1 k2 k3
    rw [HV.out] at k1 k2 k3
    have d0 : w4.cell? ⟨w1.heap.size + 1, 0, none⟩ = some (.slice aB (shR ps).length cB) := k1.cell (i := 0) (by omega)
    have K2 := Lib.hid k2
    have K3 := Lib.hid k3
    have HBF := Lib.hid (HB3.out.trans (r4.below (B := w.heap.size) hle HB3.out.size))
    clear h4 r4 k1 k2 k3 HCALL c3 c1
    go_wp2_with fail
    go_ret
    exact ⟨aB, cB, rfl, K2.out, K3.out.mono (by omega), HBF.out⟩
  · have HD : Hid ((cAll ps && decide ((n : Int) ≤ 6)) = false) := Lib.hid (by
      cases h : cAll ps
      · rfl
      · rw [Bool.true_and]; exact decide_eq_false (fun h' => h1 ⟨h, by omega⟩))
    have HV : Hid (shR ps = []) := Lib.hid (shR_no (by
      cases h : cAll ps
      · exact .inl rfl
      · exact .inr (by rw [hl]; have : ¬ n ≤ 6 := fun h' => h1 ⟨h, h'⟩; omega)))
    clear h1 hl
    go_enter Try.func21, Try.ntmps21
    go_wp2_with fail
    refine (areCuts_any g n c 6 ps _ HL.out hm HR.out).mono ?_
    rw [HD.out]
    rintro e w1 ⟨rfl, hb⟩
    have HB1 := Lib.hid (HB0.out.trans (hb.mono HB0.out.size))
    clear hb c0
    go_wp2_with fail
    go_ret
    exact GetL.nil HV.out HB1.out _ _
end Go.Proofs.Ytlplfpoggifadaa
