/-
  Contracts of slices.ContainsFunc at the closure of 'first', and of 'first' in the program.
  By an AI agent.
-/
import Derived.Test.YtjnjlpljakkakaaLens
import Derived.Test.YtjnjlpljakkakaaWalkS
namespace Go.Proofs.Ytjnjlpljakkakaa
open Go.ChangeShapes Go.WideShapes Go.ChangeAt Go.RowKit Go.Joins Go.Deep
set_option maxRecDepth 100000
set_option linter.unusedVariables false

open Classical in
noncomputable def epB (L : Rows) (k p : Nat) : Bool := decide (E L k p)
/-- T takes one of the first q pages behind p. -/
def anyB (T : Nat → Bool) (L : Rows) (p : Nat) : Nat → Bool
  | 0 => false
  | q + 1 => anyB T L p q || T (nx L p q)
theorem anyB_iff {T : Nat → Bool} {L : Rows} {p : Nat} (m : Nat) : anyB T L p m = true ↔ ∃ q, q < m ∧ T (nx L p q) = true := by
  induction m with
  | zero => exact ⟨(fun h => by cases h), fun ⟨q, hq, _⟩ => by omega⟩
  | succ m ih =>
    show (anyB T L p m || T (nx L p m)) = true ↔ _
    rw [Bool.or_eq_true, ih]
    constructor
    · rintro (⟨q, hq, h⟩ | h)
      · exact ⟨q, by omega, h⟩
      · exact ⟨m, by omega, h⟩
    · rintro ⟨q, hq, h⟩
      by_cases e : q = m
      · subst e; exact .inr h
      · exact .inl ⟨q, by omega, h⟩
open Classical in
theorem epB_zero (L : Rows) (p : Nat) : epB L 0 p = (((lenN L p : Nat) : Int) == 0) := by
  unfold epB
  by_cases h : lenN L p = 0
  · rw [h]; exact decide_eq_true h
  · rw [show (((lenN L p : Nat) : Int) == 0) = false by simp; omega]; exact decide_eq_false h
open Classical in
theorem epB_succ {n : Nat} {L : Rows} (hs : storyOk n L) {k p : Nat} (hp : p < n) : epB L (k + 1) p = anyB (epB L k) L p (lenN L p) := by
  cases e : anyB (epB L k) L p (lenN L p)
  · unfold epB
    refine decide_eq_false ?_
    rintro ⟨y, ⟨q, hq, hy⟩, he⟩
    have : nx L p q = y := by unfold nx; rw [hy]; simp
    have h2 := (anyB_iff (T := epB L k) (L := L) (p := p) (lenN L p)).2 ⟨q, hq, by unfold epB; rw [this]; exact decide_eq_true he⟩
    rw [e] at h2; cases h2
  · obtain ⟨q, hq, h⟩ := (anyB_iff _).1 e
    unfold epB at h ⊢
    exact decide_eq_true ⟨_, (edge_nx hs hp hq).1, of_decide_eq_true h⟩
set_option maxHeartbeats 2000000 in
theorem index_end (α : Option Addr) (m C be bn ge ce gr n k kk p : Nat) (hkk : kk = k + 1) (L : Rows) (T : Nat → Bool) (w : World) (hs : storyOk n L) (hp : p < n) (hm : lenN L p = m) (hk : k ≤ 16)
    (hR : SlR w α m (ic (rowN L p))) (h1 : w.cell? ⟨be, 0, none⟩ = some (.slice (some ⟨ge, 0, none⟩) kk ce)) (h2 : w.cell? ⟨bn, 0, none⟩ = some (.int .i64 (kk : Int))) (h3 : w.cell? ⟨ge, k, none⟩ = some (.slice (some ⟨gr, 0, none⟩) n n)) (h4 : Row w gr n (bc T)) :
    Calls Try.prog 63 #[.slice α m C, .func (.func 60) #[] #[.pointer (some ⟨be, 0, none⟩), .pointer (some ⟨bn, 0, none⟩)]] w fun e w' => (∃ z : Int, e = .returned (.int .i64 z) ∧ ((z = -1 ∧ anyB T L p m = false) ∨ (0 ≤ z ∧ anyB T L p m = true))) ∧ w = w' := by
  have HS := Lib.hid hs
  have HR := Lib.hid hR
  have HM := Lib.hid hm
  have H4 := Lib.hid h4
  have n16 := hs.1.2
  have e1 : (kk : Int) - 1 = (k : Int) := by omega
  have e2 : (k : Int) < (kk : Int) := by omega
  have e3 : (0 : Int) ≤ (k : Int) := Int.natCast_nonneg _
  clear hkk
  have hlen : m ≤ 4 := by rw [← hm]; exact (hs.2 p hp).1
  clear hs hR hm h4
  go_enter Try.func63, Try.ntmps63
  go_wp2
  go_loop [8] (fun i => ∃ q : Nat, q ≤ m ∧ i = .int .i64 q ∧ anyB T L p q = false) (fun i => m - (intOf i).toNat)
  case atStart => exact ⟨0, Nat.zero_le _, rfl, rfl⟩
  case round =>
    obtain ⟨q, hq, rfl, hok⟩ := hrel
    have HO := Lib.hid hok
    clear hok
    by_cases hlt : q < m
    · obtain ⟨g, rfl, hr⟩ := HR.out.row (by omega)
      have c0 := hr.cell hlt
      unfold ic at c0
      obtain ⟨he, hx⟩ := edge_nx HS.out hp (q := q) (by rw [HM.out]; exact hlt)
      rw [hx] at c0
      have hyn := edge_lt HS.out hp he
      have c5 := H4.out.cell hyn
      unfold bc at c5
      have HAN : Hid (anyB T L p (q + 1) = (anyB T L p q || T (nx L p q))) := Lib.hid rfl
      have HIF := Lib.hid (anyB_iff (T := T) (L := L) (p := p) m)
      clear hr he hx
      generalize hyy : nx L p q = y at *
      have HYY := Lib.hid hyy
      clear hyy
      have y0 : (0 : Int) ≤ (y : Int) := Int.natCast_nonneg _
      have y1 : (y : Int) < (n : Int) := by omega
      cases hT : T y
      · have HN : Hid (anyB T L p (q + 1) = false) := Lib.hid (by rw [HAN.out, HO.out, hT]; rfl)
        rw [hT] at c5
        clear hT
        go_wp2_with go_in
        go_round
        case rel => exact ⟨q + 1, by omega, by go_num, HN.out⟩
        case measure => simp [intOf]; omega
      · have HV : Hid (anyB T L p m = true) := Lib.hid (HIF.out.2 ⟨q, hlt, by rw [HYY.out]; exact hT⟩)
        rw [hT] at c5
        clear hT
        go_wp2_with go_in
        go_ret
        exact ⟨⟨_, rfl, .inr ⟨by omega, HV.out⟩⟩, rfl⟩
    · have hq' : q = m := by omega
      subst hq'
      go_wp2
      go_ret
      exact ⟨⟨_, rfl, .inl ⟨rfl, HO.out⟩⟩, rfl⟩
theorem contains_end (α : Option Addr) (m C be bn ge ce gr n k kk p : Nat) (hkk : kk = k + 1) (L : Rows) (T : Nat → Bool) (w : World) (hs : storyOk n L) (hp : p < n) (hm : lenN L p = m) (hk : k ≤ 16)
    (hR : SlR w α m (ic (rowN L p))) (h1 : w.cell? ⟨be, 0, none⟩ = some (.slice (some ⟨ge, 0, none⟩) kk ce)) (h2 : w.cell? ⟨bn, 0, none⟩ = some (.int .i64 (kk : Int))) (h3 : w.cell? ⟨ge, k, none⟩ = some (.slice (some ⟨gr, 0, none⟩) n n)) (h4 : Row w gr n (bc T)) (b : Bool) (hb : anyB T L p m = b) :
    Calls Try.prog 59 #[.slice α m C, .func (.func 60) #[] #[.pointer (some ⟨be, 0, none⟩), .pointer (some ⟨bn, 0, none⟩)]] w fun e w' => e = .returned (.bool b) ∧ w = w' := by
  have HC := Lib.hid (index_end α m C be bn ge ce gr n k kk p hkk L T w hs hp hm hk hR h1 h2 h3 h4)
  have HB := Lib.hid hb
  clear hs hm hR h1 h2 h3 h4 hb
  go_enter Try.func59, Try.ntmps59
  go_wp2_with fail
  refine HC.out.mono ?_
  rintro e w' ⟨⟨z, rfl, hz⟩, rfl⟩
  cases b
  · have hz' : z = -1 := by
      rcases hz with ⟨h, _⟩ | ⟨_, h⟩
      · exact h
      · rw [HB.out] at h; cases h
    subst hz'
    clear hz
    go_wp2
    go_ret
    exact ⟨rfl, rfl⟩
  · have hz' : 0 ≤ z := by
      rcases hz with ⟨_, h⟩ | ⟨h, _⟩
      · rw [HB.out] at h; cases h
      · exact h
    clear hz
    go_wp2
    go_ret
    exact ⟨rfl, rfl⟩
theorem infoRowB : (Try.prog.info? 47).map (fun i => (i.zero, i.size, i.bytes)) = some (some (.slice none 0 0), 1, 24) := by kernel_rfl
def enL (R : Nat → Nat) (n k : Nat) : List Value := (List.range k).map fun j => Value.slice (some ⟨R j, 0, none⟩) n n
theorem enL_at {R : Nat → Nat} {n k j : Nat} (h : j < k) : (enL R n k).getD j undef = .slice (some ⟨R j, 0, none⟩) n n := by unfold enL; simp [List.getD, h]
theorem enL_succ (R : Nat → Nat) (n k x : Nat) : enL (fun j => if j = k then x else R j) n (k + 1) = enL R n k ++ [.slice (some ⟨x, 0, none⟩) n n] := by
  unfold enL
  rw [List.range_succ, List.map_append]
  congr 1
  · refine List.map_congr_left fun j hj => ?_
    have := List.mem_range.1 hj
    show Value.slice (some ⟨(if j = k then x else R j), 0, none⟩) n n = _
    rw [if_neg (by omega)]
  · simp
set_option maxHeartbeats 8000000 in
theorem first_any (a : Option Addr) (n c s : Nat) (L : Rows) (w : World) (hs : storyOk n L) (hR : RSt w a n L) (hsn : s < n) (hE : E L s 0) :
    Calls Try.prog 52 #[.agg #[.slice a n c], .int .i64 s] w (GetL (way L s s) w) := by
  obtain ⟨i0, hi0, hz0, hz1, hz2⟩ := info_parts infoBool
  have HS := Lib.hid hs
  obtain ⟨n1, n16⟩ := hs.1
  have HPG := Lib.hid (fun j hj => pg_ok hs hE (j := j) hj)
  have hb0 := Below.box w (.cells #[.slice a n c] 27 (0, 0))
  have HB0 := Lib.hid hb0
  have HR0 := Lib.hid (hR.below hb0)
  have hsz : (w.alloc (.cells #[.slice a n c] 27 (0, 0))).heap.size = w.heap.size + 1 := by simp
  have hc0 : (w.alloc (.cells #[.slice a n c] 27 (0, 0))).cell? ⟨w.heap.size, 0, none⟩ = some (.slice a n c) := new_cell rfl
  have HC0 := Lib.hid hc0
  clear hs hR hb0 hc0 hE
  have O0 : Hid (Own1 ((w.alloc (.cells #[.slice a n c] 27 (0, 0))).alloc (.cells #[] 47 (0, 0))) (w.alloc (.cells #[.slice a n c] 27 (0, 0))).heap.size 47 (w.heap.size + 1) 0 0 []) := Lib.hid (by have o := Own1.empty (w.alloc (.cells #[.slice a n c] 27 (0, 0))) 47; rw [hsz] at o ⊢; exact o)
  have BX := Lib.hid (((Below.box (w.alloc (.cells #[.slice a n c] 27 (0, 0))) (.cells #[] 47 (0, 0)))).alloc (by simp) (.cells #[.slice (some ⟨w.heap.size + 1, 0, none⟩) 0 0] 65 (0, 0)))
  have HBE : Hid (Row (((w.alloc (.cells #[.slice a n c] 27 (0, 0))).alloc (.cells #[] 47 (0, 0))).alloc (.cells #[.slice (some ⟨w.heap.size + 1, 0, none⟩) 0 0] 65 (0, 0))) (w.heap.size + 2) 1 (fun _ => .slice (some ⟨w.heap.size + 1, 0, none⟩) 0 0)) := Lib.hid (by
    have r := (Row.of_new ((w.alloc (.cells #[.slice a n c] 27 (0, 0))).alloc (.cells #[] 47 (0, 0))) #[.slice (some ⟨w.heap.size + 1, 0, none⟩) 0 0] 65)
    have e : ((w.alloc (.cells #[.slice a n c] 27 (0, 0))).alloc (.cells #[] 47 (0, 0))).heap.size = w.heap.size + 2 := by simp
    rw [e] at r
    exact r.congr fun i hi => by have : i = 0 := by simp at hi; omega
                                 subst this; rfl)
  have O1 := Lib.hid (O0.out.alloc (.cells #[.slice (some ⟨w.heap.size + 1, 0, none⟩) 0 0] 65 (0, 0)))
  clear O0
  go_enter Try.func52, Try.ntmps52
  go_wp2
  generalize ((w.alloc (.cells #[.slice a n c] 27 (0, 0))).alloc (.cells #[] 47 (0, 0))).alloc (.cells #[.slice (some ⟨w.heap.size + 1, 0, none⟩) 0 0] 65 (0, 0)) = wA at *
  generalize hW : w.alloc (.cells #[.slice a n c] 27 (0, 0)) = W at *
  clear hW
  generalize hbx : w.heap.size = bx at *
  have FIN : Hid (∀ w', Below W.heap.size W w' → Below w.heap.size w w') := Lib.hid (fun w' h => by rw [hbx]; exact HB0.out.trans (h.mono (by omega)))
  have HGE : Hid (w.heap.size ≤ W.heap.size) := Lib.hid (by omega)
  clear hbx
  go_loopw [19] (fun i wr => ∃ (k ge ce : Nat) (R : Nat → Nat), k ≤ s + 1 ∧ i = .int .i64 k ∧ Row wr (bx + 2) 1 (fun _ => .slice (some ⟨ge, 0, none⟩) k ce) ∧ Own1 wr W.heap.size 47 ge k ce (enL R n k) ∧ ge ≠ bx + 2 ∧ (∀ j, j < k → (R j ≠ ge ∧ R j ≠ bx + 2) ∧ Row wr (R j) n (bc (epB L j))) ∧ Below W.heap.size W wr) (fun i _ => s + 1 - (intOf i).toNat)
  case atStart => exact ⟨0, bx + 1, 0, fun _ => 0, Nat.zero_le _, rfl, HBE.out, O1.out, by omega, fun j h => absurd h (Nat.not_lt_zero j), BX.out⟩
  case round =>
    clear HBE O1 BX
    obtain ⟨k, ge, ce, R, hk, rfl, h1, h2, h3, h4, h5⟩ := hrel
    rename World => wo
    have HBE := Lib.hid h1
    have HO := Lib.hid h2
    have HNE := Lib.hid h3
    have HRS := Lib.hid h4
    have HB := Lib.hid h5
    clear h1 h2 h3 h4 h5
    have cP := (HB.out.cell (p := ⟨bx, 0, none⟩) (by show bx < _; omega)).trans HC0.out
    by_cases hlk : k < s + 1
    · have HBN := Lib.hid (Below.box wo (.cells #[.int .i64 (k : Int)] 3 (0, 0)))
      have cBN : (wo.alloc (.cells #[.int .i64 (k : Int)] 3 (0, 0))).cell? ⟨wo.heap.size, 0, none⟩ = some (.int .i64 (k : Int)) := new_cell rfl
      have hszo : (wo.alloc (.cells #[.int .i64 (k : Int)] 3 (0, 0))).heap.size = wo.heap.size + 1 := by simp
      have cPb := (HBN.out.cell (p := ⟨bx, 0, none⟩) (World.block_lt_of_cell? _ _ cP)).trans cP
      have HCBN := Lib.hid cBN
      go_wp2_with (at_make; refine wpList_make_full _ rfl _ _ 47 rfl (wo.alloc (.cells #[.int .i64 (k : Int)] 3 (0, 0))).heap.size 4 i0 _ 1 Try.underlying47 hi0 hz0 hz1 .i64 .i64 n n n rfl rfl rfl rfl (by rw [hz2]; omega) (by unfold maxLen; omega) (Nat.le_refl _) ?_; intro w2 own2 gr2; have B2 : Below (wo.alloc (.cells #[.int .i64 (k : Int)] 3 (0, 0))).heap.size (wo.alloc (.cells #[.int .i64 (k : Int)] 3 (0, 0))) w2 := (Below.refl _ _).grown gr2 (Nat.le_refl _) (by simp); have HB2 := Lib.hid B2; have cP2 := (B2.cell (p := ⟨bx, 0, none⟩) (World.block_lt_of_cell? _ _ cPb)).trans cPb; have HR2 : Hid (Row w2 (wo.heap.size + 1) n (fun i => if i < 0 then bc (epB L k) i else .bool false)) := Lib.hid (by rw [← hszo]; exact ((Row.of_owns own2).mono (M := n) (by omega)).congr fun j hj => (by rw [made_at _ _ _ (by omega), if_neg (by omega)]; simp [Value.cells, Nat.mod_one])); clear B2 own2 gr2)
      have HBw := Lib.hid (HB.out.trans ((HBN.out.trans (HB2.out.mono HBN.out.size)).mono HB.out.size))
      have hBow : Below wo.heap.size wo w2 := HBN.out.trans (HB2.out.mono HBN.out.size)
      have HBow := Lib.hid hBow
      have cBN2 := (HB2.out.cell (p := ⟨wo.heap.size, 0, none⟩) (World.block_lt_of_cell? _ _ cBN)).trans cBN
      have HCB2 := Lib.hid cBN2
      have HCP2 := Lib.hid cP2
      have hbel := HBE.out.lt
      have hgel := HO.out.lt
      clear cBN cPb hBow cP cBN2
      have FB2 : Hid (∀ wk, OnlyB (wo.heap.size + 1) w2 wk → Below W.heap.size W wk) := Lib.hid (fun wk h => HBw.out.trans (h.toBelow (Nat.le_succ_of_le HB.out.size) HBw.out.size))
      generalize hgx : wo.heap.size = so at *
      have HSO := Lib.hid hgx
      clear hgx
      go_loopw [29] (fun i wk => ∃ p : Nat, p ≤ n ∧ i = .int .i64 p ∧ Row wk (so + 1) n (fun i => if i < p then bc (epB L k) i else .bool false) ∧ OnlyB (so + 1) w2 wk) (fun i _ => n - (intOf i).toNat)
      case atStart => exact ⟨0, Nat.zero_le _, rfl, HR2.out, OnlyB.refl _ _⟩
      case round =>
        clear cP2
        obtain ⟨p, hp, rfl, h3, h4⟩ := hrel
        rename World => wi
        have HRX := Lib.hid h3
        have HOX := Lib.hid h4
        clear h3 h4
        have hFB := FB2.out _ HOX.out
        by_cases hlp : p < n
        · obtain ⟨g, α, C, rfl, lg, r0, hC, s0⟩ := HR0.out.at hlp
          have r1 := (hFB.cell (p := ⟨g, p, none⟩) lg).trans r0
          have S0 := Lib.hid (s0.below hFB)
          have hbs : so < w2.heap.size := World.block_lt_of_cell? _ _ HCB2.out
          have cN := (World.cell?_of_block (w := w2) (a := ⟨so, 0, none⟩) (HOX.out.block so hbs (by omega))).trans HCB2.out
          have c3 := HRX.out.cell hlp
          rw [if_neg (Nat.lt_irrefl _)] at c3
          have f3 := HRX.out.frozen p
          clear r0 s0
          by_cases hk0 : k = 0
          · have HEP : Hid (Value.bool (((lenN L p : Nat) : Int) == 0) = bc (epB L k) p) := Lib.hid (by unfold bc; rw [hk0, epB_zero])
            have HFILL : Hid (Row (wi.setCell ⟨so + 1, p, none⟩ (.bool (((lenN L p : Nat) : Int) == 0))) (so + 1) n (fun i => if i < p + 1 then bc (epB L k) i else .bool false)) := Lib.hid (fill1 HRX.out HEP.out)
            have t0 : ((k : Int) == 0) = true := by simp; exact hk0
            clear hk0
            generalize hml : lenN L p = ml at *
            go_wp2
            go_roundw
            case rel => exact ⟨p + 1, by omega, by go_num, HFILL.out, HOX.out.set p _⟩
            case measure => simp [intOf]; omega
          · obtain ⟨k', hkk⟩ : ∃ k', k = k' + 1 := ⟨k - 1, by omega⟩
            have t0 : ((k : Int) == 0) = false := by simp; exact hk0
            have hBEi : Row wi (bx + 2) 1 (fun _ => .slice (some ⟨ge, 0, none⟩) k ce) := HOX.out.row (HBE.out.below HBow.out hbel) (by omega)
            have cBE := hBEi.cell (i := 0) (by omega)
            have hGEi : Row wi ge k (fun i => (enL R n k).getD i undef) := HOX.out.row ((HO.out.row).below HBow.out hgel.2) (by omega)
            have cGE := hGEi.cell (i := k') (by omega)
            rw [enL_at (show k' < k by omega)] at cGE
            obtain ⟨⟨rn1, rn2⟩, hRk⟩ := HRS.out k' (by omega)
            have hRl := hRk.lt
            have hRi : Row wi (R k') n (bc (epB L k')) := HOX.out.row (hRk.below HBow.out (by have := HSO.out; omega)) (by have := HSO.out; omega)
            have HCE := Lib.hid (contains_end α (lenN L p) C (bx + 2) so ge ce (R k') n k' k p hkk L (epB L k') wi HS.out hlp rfl (by omega) S0.out cBE cN cGE hRi _ rfl)
            have HEP : Hid (Value.bool (anyB (epB L k') L p (lenN L p)) = bc (epB L k) p) := Lib.hid (by unfold bc; rw [hkk, epB_succ HS.out hlp])
            have HFILL : Hid (Row (wi.setCell ⟨so + 1, p, none⟩ (.bool (anyB (epB L k') L p (lenN L p)))) (so + 1) n (fun i => if i < p + 1 then bc (epB L k) i else .bool false)) := Lib.hid (fill1 HRX.out HEP.out)
            clear hBEi cBE hGEi cGE hRi hRk HEP hk0 hkk
            generalize anyB (epB L k') L p (lenN L p) = tb at *
            generalize hml : lenN L p = ml at *
            go_wp2_with (go_at_call 59; refine HCE.out.mono ?_; rintro e w' ⟨rfl, rfl⟩)
            go_roundw
            case rel => exact ⟨p + 1, by omega, by go_num, HFILL.out, HOX.out.set p _⟩
            case measure => simp [intOf]; omega
        · have hp' : p = n := by omega
          subst hp'
          have HROW : Hid (Row wi (so + 1) p (bc (epB L k))) := Lib.hid (HRX.out.congr (fun i hi => if_pos hi))
          have hrl := HRX.out.lt
          have hBEi : Row wi (bx + 2) 1 (fun _ => .slice (some ⟨ge, 0, none⟩) k ce) := HOX.out.row (HBE.out.below HBow.out hbel) (by omega)
          have HBEi := Lib.hid hBEi
          have cBE := hBEi.cell (i := 0) (by omega)
          have HOi := Lib.hid ((HO.out.below (by rw [HSO.out]; exact HBow.out)).keep HOX.out (by omega))
          have hgi := HOi.out.lt
          have HRSi : Hid (∀ j, j < k → Row wi (R j) p (bc (epB L j)) ∧ R j < so) := Lib.hid (fun j hj => by
            obtain ⟨⟨_, _⟩, hr⟩ := HRS.out j hj
            have hl := hr.lt
            exact ⟨HOX.out.row (hr.below HBow.out (by have := HSO.out; omega)) (by have := HSO.out; omega), by have := HSO.out; omega⟩)
          have HENS := Lib.hid (enL_succ R p k (so + 1))
          have hnb : bx + 2 ≠ ge := Ne.symm HNE.out
          clear hBEi
          go_wp2_with (at_builtin; refine append_one rfl _ _ 65 rfl Try.underlying65 infoRowB rfl (by omega) rfl (HOi.out.alloc _) (by omega) rfl (new_cell (by simp)) rfl ?_; intro g' c' w5 o5 oo5 l5; have O5 := Lib.hid o5; have OO5 := Lib.hid oo5; have L5 := Lib.hid l5; have hBE5 := oo5.row (HBEi.out.below (Below.box wi _) HBEi.out.lt) hnb; have c5 := hBE5.cell (i := 0) (by omega); have f5 := hBE5.frozen 0; have HBE5 := Lib.hid hBE5; clear o5 oo5 l5 hBE5)
          go_roundw
          case rel =>
            have b2 := hFB.alloc (o := .cells #[.slice (some ⟨so + 1, 0, none⟩) p p] 47 (0, 0)) hFB.size
            have hl5 : g' ≠ bx + 2 ∧ (∀ j, j < k → R j ≠ g') ∧ so + 1 ≠ g' := by
              rcases L5.out with h | h
              · subst h; exact ⟨HNE.out, fun j hj => (HRS.out j hj).1.1, by omega⟩
              · simp at h
                refine ⟨by omega, fun j hj => ?_, by omega⟩
                have := (HRSi.out j hj).2
                omega
            refine ⟨k + 1, g', c', fun j => if j = k then so + 1 else R j, by omega, by go_num, (HBE5.out.set 0 _).congr (fun i hi => if_pos (by omega)), ?_, hl5.1, fun j hj => ?_, (b2.trans (OO5.out.toBelow hgi.1 b2.size)).setCell (by show W.heap.size ≤ bx + 2; omega) _⟩
            · rw [HENS.out]; exact O5.out.set_other (p := ⟨bx + 2, 0, none⟩) hl5.1 _
            · by_cases e : j = k
              · subst e
                simp only [if_true]
                refine ⟨⟨hl5.2.2, by omega⟩, (OO5.out.row (HROW.out.below (Below.box wi _) hrl) (by omega)).set_other (p := ⟨bx + 2, 0, none⟩) (by show so + 1 ≠ bx + 2; omega) _⟩
              · simp only [if_neg e]
                obtain ⟨⟨e1, e2⟩, _⟩ := HRS.out j (by omega)
                obtain ⟨hr, _⟩ := HRSi.out j (by omega)
                exact ⟨⟨hl5.2.1 j (by omega), e2⟩, (OO5.out.row (hr.below (Below.box wi _) hr.lt) e1).set_other (p := ⟨bx + 2, 0, none⟩) e2 _⟩
          case measure => simp [intOf]; omega
    · have hk' : k = s + 1 := by omega
      subst hk'
      -- the way
      have hgel := HO.out.lt
      have hbel := HBE.out.lt
      have HBO := Lib.hid (Below.box wo (.cells #[.int .i64 0] 3 (0, 0)))
      have HOUT : Hid (Own1 (wo.alloc (.cells #[.int .i64 0] 3 (0, 0))) wo.heap.size 3 wo.heap.size 1 1 ((way L s 0).map (Value.int .i64))) := Lib.hid (World.ownsRow_lit wo #[.int .i64 0] 1 (Nat.le_refl _) (by unfold maxLen; omega) rfl)
      have HENV : Hid (∀ wr, Below wo.heap.size wo wr → (wr.cell? ⟨bx, 0, none⟩ = some (.slice a n c) ∧ wr.cell? ⟨bx + 2, 0, none⟩ = some (.slice (some ⟨ge, 0, none⟩) (s + 1) ce)) ∧ Below W.heap.size W wr ∧ ∀ j, j < s + 1 → wr.cell? ⟨ge, j, none⟩ = some (.slice (some ⟨R j, 0, none⟩) n n) ∧ Row wr (R j) n (bc (epB L j))) := Lib.hid (fun wr hb => by
        have hBw := HB.out.trans (hb.mono HB.out.size)
        refine ⟨⟨(hBw.cell (p := ⟨bx, 0, none⟩) (by show bx < _; omega)).trans HC0.out, (HBE.out.below hb hbel).cell (i := 0) (by omega)⟩, hBw, fun j hj => ⟨?_, ?_⟩⟩
        · have := ((HO.out.row).below hb hgel.2).cell hj
          rw [enL_at hj] at this
          exact this
        · have hr := (HRS.out j hj).2
          exact hr.below hb hr.lt)
      clear hgel hbel cP
      go_wp2
      go_loopw [10, 11, 12] (fun v pv i wr => ∃ (j g1 c1 : Nat), j ≤ s ∧ i = .int .i64 ((s : Int) - 1 - j) ∧ pv = .int .i64 (pg L s j : Int) ∧ v = .slice (some ⟨g1, 0, none⟩) (j + 1) c1 ∧ Own1 wr wo.heap.size 3 g1 (j + 1) c1 ((way L s j).map (Value.int .i64)) ∧ Below wo.heap.size wo wr) (fun _ _ i _ => (intOf i + 1).toNat)
      case atStart => exact ⟨0, _, 1, Nat.zero_le _, congrArg (Value.int .i64) (by omega), rfl, rfl, HOUT.out, HBO.out⟩
      case round =>
        clear HOUT HBO
        obtain ⟨j, g1, c1, hj, rfl, rfl, rfl, h1, hB⟩ := hrel
        rename World => wi
        have H1 := Lib.hid h1
        have HBI := Lib.hid hB
        clear h1 hB
        obtain ⟨p1, p2, _⟩ := HPG.out j hj
        obtain ⟨⟨cP, cBE⟩, hBw, hen⟩ := HENV.out _ HBI.out
        by_cases hjs : j < s
        · obtain ⟨cGE, hRj⟩ := hen (s - (j + 1)) (by omega)
          obtain ⟨g, α, C, rfl, lg, r0, hC, s0⟩ := HR0.out.at p1
          have r1 := (hBw.cell (p := ⟨g, pg L s j, none⟩) lg).trans r0
          have S0 := Lib.hid (s0.below hBw)
          have HRJ := Lib.hid hRj
          have hlen : lenN L (pg L s j) ≤ 4 := (HS.out.2 _ p1).1
          rw [show s - j = s - (j + 1) + 1 by omega] at p2
          have HBEST : Hid (lst L (fun y => epB L (s - (j + 1)) y = true) (pg L s j) (lenN L (pg L s j)) = (pg L s (j + 1) : Int)) := Lib.hid (by
            classical
            have hk := nxt_ok HS.out p1 (k := s - (j + 1)) p2
            rw [show (pg L s (j + 1)) = nxt L (s - (j + 1)) (pg L s j) from rfl, ← hk.1]
            exact lst_congr fun q hq => by unfold epB; exact decide_eq_true_iff)
          have HWS := Lib.hid (way_succ L s j)
          have HNE := Lib.hid (fun q (hq : q < lenN L (pg L s j)) => edge_nx HS.out p1 hq)
          have HROW : Hid (∀ q, q < lenN L (pg L s j) → nx L (pg L s j) q < n) := Lib.hid (fun q hq => edge_lt HS.out p1 (HNE.out q hq).1)
          have HLB := Lib.hid (fun q (hq : q ≤ lenN L (pg L s j)) => lst_bd HS.out (P := fun y => epB L (s - (j + 1)) y = true) p1 q hq)
          have HLS : Hid (∀ q, lst L (fun y => epB L (s - (j + 1)) y = true) (pg L s j) (q + 1) = if epB L (s - (j + 1)) (nx L (pg L s j) q) = true ∧ (lst L (fun y => epB L (s - (j + 1)) y = true) (pg L s j) q < 0 ∨ (nx L (pg L s j) q : Int) < lst L (fun y => epB L (s - (j + 1)) y = true) (pg L s j) q) then (nx L (pg L s j) q : Int) else lst L (fun y => epB L (s - (j + 1)) y = true) (pg L s j) q) := Lib.hid (fun q => rfl)
          have CBE := Lib.hid cBE
          have CP := Lib.hid cP
          have CGE := Lib.hid cGE
          clear r0 s0 hRj hen hBw p2
          have hkk : ((s : Int) - 1 - j) = ((s - (j + 1) : Nat) : Int) := by omega
          rw [hkk]
          clear hkk
          have hlk : s - (j + 1) < s + 1 := by omega
          have hme : s - (j + 1) + j + 1 = s := by omega
          generalize hkj : s - (j + 1) = kj at *
          generalize hpp : pg L s j = p at *
          generalize hml : lenN L p = ml at *
          clear hpp
          have j0 : (0 : Int) ≤ (p : Int) := Int.natCast_nonneg _
          have j1 : (p : Int) < (n : Int) := by omega
          go_wp2
          clear cP cBE cGE
          go_loop [13, 67] (fun b i => ∃ q : Nat, q ≤ ml ∧ i = .int .i64 q ∧ b = .int .i64 (lst L (fun y => epB L kj y = true) p q)) (fun _ i => ml - (intOf i).toNat)
          case atStart => exact ⟨0, Nat.zero_le _, rfl, rfl⟩
          case round =>
            obtain ⟨q, hq, rfl, rfl⟩ := hrel
            by_cases hlq : q < ml
            · obtain ⟨g3, rfl, hr3⟩ := S0.out.row (by omega)
              have c2 := hr3.cell hlq
              unfold ic at c2
              rw [(HNE.out q hlq).2] at c2
              have hyn := HROW.out q hlq
              have c5 := HRJ.out.cell hyn
              unfold bc at c5
              obtain ⟨b0, b1⟩ := HLB.out q hq
              have HL := Lib.hid (HLS.out q)
              have cBE := CBE.out
              have cGE := CGE.out
              clear hr3
              generalize nx L p q = x at *
              generalize epB L kj x = ex at *
              generalize lst L (fun y => epB L kj y = true) p q = b at *
              have x0 : (0 : Int) ≤ (x : Int) := Int.natCast_nonneg _
              have x1 : (x : Int) < (n : Int) := by omega
              have k0 : (0 : Int) ≤ (kj : Int) := Int.natCast_nonneg _
              have k1 : (kj : Int) < ((s + 1 : Nat) : Int) := by omega
              cases ex
              · rw [if_neg (fun h => by cases h.1)] at HL
                go_wp2
                go_round
                case rel => exact ⟨q + 1, by omega, by go_num, by rw [HL.out]⟩
                case measure => simp [intOf]; omega
              · by_cases hb2 : b < 0
                · rw [if_pos ⟨rfl, .inl hb2⟩] at HL
                  go_wp2
                  go_round
                  case rel => exact ⟨q + 1, by omega, by go_num, by rw [HL.out]⟩
                  case measure => simp [intOf]; omega
                · by_cases hb3 : (x : Int) < b
                  · rw [if_pos ⟨rfl, .inr hb3⟩] at HL
                    go_wp2
                    go_round
                    case rel => exact ⟨q + 1, by omega, by go_num, by rw [HL.out]⟩
                    case measure => simp [intOf]; omega
                  · rw [if_neg (fun h => by rcases h.2 with h | h <;> omega)] at HL
                    go_wp2
                    go_round
                    case rel => exact ⟨q + 1, by omega, by go_num, by rw [HL.out]⟩
                    case measure => simp [intOf]; omega
            · have hq' : q = ml := by omega
              subst hq'
              have hl1 := H1.out.lt
              rw [HBEST.out]
              go_wp2_with (at_builtin; refine append_one rfl _ _ 31 rfl Try.underlying31 infoInt rfl (by omega) rfl (H1.out.alloc _) (by omega) rfl (new_cell (by simp)) rfl ?_; intro g' c' w3 o3 oo3 l3; have O3 := Lib.hid o3; have OO3 := Lib.hid oo3; clear o3 oo3 l3)
              go_roundw
              case rel =>
                have b2 := HBI.out.alloc (o := .cells #[.int .i64 (pg L s (j + 1) : Int)] 3 (0, 0)) HBI.out.size
                have hown : Own1 w3 wo.heap.size 3 g' (j + 1 + 1) c' ((way L s (j + 1)).map (Value.int .i64)) := by rw [HWS.out, List.map_append]; exact O3.out
                exact ⟨_, _, _, ⟨j + 1, by omega, congrArg (Value.int .i64) (by push_cast; omega), rfl, g', c', rfl, hown, b2.trans (OO3.out.toBelow hl1.1 b2.size)⟩, rfl, rfl, rfl⟩
              case measure => simp [intOf]; omega
        · have hj' : j = s := by omega
          subst hj'
          have hneg : ((j : Int) - 1 - j) = -1 := by omega
          rw [hneg]
          clear hen
          generalize pg L j j = p at *
          go_wp2
          go_ret
          exact GetL.own H1.out (Nat.le_trans HGE.out HB.out.size) (FIN.out _ hBw)
end Go.Proofs.Ytjnjlpljakkakaa
