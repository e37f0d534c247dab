/-
  Contract of PlatesOf in the reference: the colors that are used, in their order.
  By an AI agent.
-/
import Derived.Test.YteojoifhmaoiaaaColor
import Derived.Test.YteojoifhmaoiaaaReg
import Derived.Test.YteojoifhmaoiaaaOwn
namespace Go.Proofs.Yteojoifhmaoiaaa
open Go.ChangeShapes Go.WideShapes Go.ChangeAt Go.RowKit Go.Joins Go.Deep
set_option maxRecDepth 100000
set_option linter.unusedVariables false

def usedB (cs : List Int) (x : Int) : Nat → Bool
  | 0 => false
  | j + 1 => usedB cs x j || decide (cs.getD j 0 = x)
theorem usedB_iff {cs : List Int} {x : Int} : ∀ j, usedB cs x j = true ↔ ∃ i, i < j ∧ cs.getD i 0 = x := by
  intro j
  induction j with
  | zero => exact ⟨fun h => by simp [usedB] at h, fun ⟨i, h, _⟩ => by omega⟩
  | succ j ih =>
    unfold usedB
    rw [Bool.or_eq_true, ih, decide_eq_true_eq]
    constructor
    · rintro (⟨i, h1, h2⟩ | h)
      · exact ⟨i, by omega, h2⟩
      · exact ⟨j, by omega, h⟩
    · rintro ⟨i, h1, h2⟩
      by_cases e : i = j
      · subst e; exact .inr h2
      · exact .inl ⟨i, by omega, h2⟩
/-- The colors below x that are used. -/
def plL (cs : List Int) : Nat → List Int
  | 0 => []
  | x + 1 => plL cs x ++ if usedB cs (x : Int) cs.length = true then [(x : Int)] else []
theorem plL_len (cs : List Int) : ∀ x, (plL cs x).length ≤ x := by
  intro x
  induction x with
  | zero => exact Nat.le_refl _
  | succ x ih =>
    unfold plL
    rw [List.length_append]
    by_cases h : usedB cs (x : Int) cs.length = true
    · rw [if_pos h]; simp; omega
    · rw [if_neg h]; simp; omega
def platesR (d f : Int) (ss : List ByteArray) (cs : List Int) (k : Nat) : List Int := if colB d f ss cs k = true then plL cs 8 else []
theorem plates_len (d f : Int) (ss : List ByteArray) (cs : List Int) (k : Nat) : (platesR d f ss cs k).length ≤ 8 := by
  unfold platesR
  by_cases h : colB d f ss cs k = true
  · rw [if_pos h]; exact plL_len cs 8
  · rw [if_neg h]; simp
theorem infoIntP : (Try.prog.info? 3).map (fun i => (i.zero, i.size, i.bytes)) = some (some (.int .i64 0), 1, 8) := by kernel_rfl
set_option maxHeartbeats 4000000 in
theorem sPlatesOf_any (d f : Int) (a : Option Addr) (n c : Nat) (ss : List ByteArray) (F : Nat → Nat) (k : Nat) (e : Option Addr) (m cb : Nat) (cs : List Int) (w : World) (hF : FcO d f n ss F k) (hl : ss.length = n) (hm : (n : Int) + tot ss n ≤ 1048576) (hR : SlR w a n (sc ss)) (hcl : cs.length = m) (hcm : m ≤ 1048576) (hB : SlR w e m (ic cs)) :
    Calls Try.prog 33 #[.agg #[.int .i64 d, .int .i64 f, .slice a n c], .slice e m cb] w (GetL (platesR d f ss cs k) w) := by
  have hbx : Row (w.alloc (.cells #[.int .i64 d, .int .i64 f, .slice a n c] 26 (0, 0))) w.heap.size 3 (fun j => #[Value.int .i64 d, .int .i64 f, .slice a n c].getD j undef) := Row.of_new w _ _
  have sz1 : (w.alloc (.cells #[.int .i64 d, .int .i64 f, .slice a n c] 26 (0, 0))).heap.size = w.heap.size + 1 := by simp
  have O1 : Own1 ((w.alloc (.cells #[.int .i64 d, .int .i64 f, .slice a n c] 26 (0, 0))).alloc (.cells #[] 3 (0, 0))) (w.heap.size + 1) 3 (w.heap.size + 1) 0 0 [] := by
    have := (Own1.empty (w.alloc (.cells #[.int .i64 d, .int .i64 f, .slice a n c] 26 (0, 0))) 3)
    rw [sz1] at this
    exact this
  have sz2 : ((w.alloc (.cells #[.int .i64 d, .int .i64 f, .slice a n c] 26 (0, 0))).alloc (.cells #[] 3 (0, 0))).heap.size = w.heap.size + 2 := by simp
  have hbz := (Below.box w (.cells #[.int .i64 d, .int .i64 f, .slice a n c] 26 (0, 0))).alloc (o := .cells #[] 3 (0, 0)) (by simp)
  have HO1 := Lib.hid O1
  have HBX := Lib.hid (hbx.alloc (.cells #[] 3 (0, 0)))
  have HBZ := Lib.hid hbz
  have HR := Lib.hid hR
  have HE := Lib.hid hB
  have HF := Lib.hid hF
  have HL := Lib.hid hl
  have HCL := Lib.hid hcl
  have HPL : Hid (∀ x, (plL cs x).length ≤ x) := Lib.hid (plL_len cs)
  clear O1 hbx hbz hR hF hl hB hcl
  go_enter Try.func33, Try.ntmps33
  go_wp2
  clear sz1
  generalize (w.alloc (.cells #[.int .i64 d, .int .i64 f, .slice a n c] 26 (0, 0))).alloc (.cells #[] 3 (0, 0)) = W at *
  generalize hbb : w.heap.size = b at *
  have HBB := Lib.hid hbb
  have HW2 := Lib.hid sz2
  clear hbb
  go_loopw [5, 6] (fun v x wo => ∃ (t g cp : Nat), t ≤ 8 ∧ x = .int .i64 t ∧ v = .slice (some ⟨g, 0, none⟩) (plL cs t).length cp ∧ (colB d f ss cs k = false → t = 0) ∧ Own1 wo (b + 1) 3 g (plL cs t).length cp ((plL cs t).map (Value.int .i64)) ∧ Row wo b 3 (fun j => #[Value.int .i64 d, .int .i64 f, .slice a n c].getD j undef) ∧ Below b w wo) (fun _ x _ => 8 - (intOf x).toNat)
  case atStart => exact ⟨0, b + 1, 0, Nat.zero_le _, rfl, rfl, fun _ => rfl, HO1.out, HBX.out, HBZ.out⟩
  case round =>
    obtain ⟨t, g, cp, ht, rfl, rfl, h1, h2, h3, h4⟩ := hrel
    rename World => wo
    have H1 := Lib.hid h1
    have H2 := Lib.hid h2
    have H3 := Lib.hid h3
    have H4 := Lib.hid h4
    have hgl := h2.lt
    have b0 := h3.cell (i := 0) (by omega)
    have b1 := h3.cell (i := 1) (by omega)
    have b2 := h3.cell (i := 2) (by omega)
    clear h1 h2 h3 h4
    have hpl := HPL.out t
    have HRo : Hid (SlR wo a n (sc ss)) := Lib.hid (HR.out.below (by rw [HBB.out]; exact H4.out))
    have HEo : Hid (SlR wo e m (ic cs)) := Lib.hid (HE.out.below (by rw [HBB.out]; exact H4.out))
    by_cases hlt : t < 8
    · cases ho : colB d f ss cs k
      · have h0 := H1.out ho
        have HO := Lib.hid ho
        have HV : Hid (platesR d f ss cs k = []) := Lib.hid (by unfold platesR; rw [ho]; rfl)
        clear ho
        subst h0
        go_wp2_with (go_at_call 36; refine (sColorsOk_any d f _ n _ ss F k _ m _ cs _ HF.out HL.out hm HRo.out HCL.out hcm HEo.out).mono ?_; rw [HO.out]; rintro e w1 ⟨rfl, hb1⟩; have HB1 := Lib.hid hb1; clear hb1)
        go_ret
        refine GetL.nil HV.out ?_ _ _
        rw [HBB.out]
        exact H4.out.trans (HB1.out.mono (by omega))
      · have HO := Lib.hid ho
        clear ho
        go_wp2_with (go_at_call 36; refine (sColorsOk_any d f _ n _ ss F k _ m _ cs _ HF.out HL.out hm HRo.out HCL.out hcm HEo.out).mono ?_; rw [HO.out]; rintro e w1 ⟨rfl, hb1⟩; have HB1 := Lib.hid hb1; clear hb1)
        have HEi : Hid (SlR w1 e m (ic cs)) := Lib.hid (HEo.out.below HB1.out)
        have hsz1 := HB1.out.size
        go_loopw [7, 8] (fun v x wi => ∃ j : Nat, j ≤ m ∧ x = .int .i64 j ∧ v = .bool (usedB cs (t : Int) j) ∧ wi = w1) (fun _ x _ => m - (intOf x).toNat)
        case atStart => exact ⟨0, Nat.zero_le _, rfl, rfl, rfl⟩
        case round =>
          obtain ⟨j, hj, rfl, rfl, rfl⟩ := hrel
          by_cases hlj : j < m
          · obtain ⟨gb, rfl, hrow⟩ := HEi.out.row (by omega)
            have cx := hrow.cell hlj
            unfold ic at cx
            have HST : Hid (usedB cs (t : Int) (j + 1) = (usedB cs (t : Int) j || decide (cs.getD j 0 = (t : Int)))) := Lib.hid rfl
            have z0 : (0 : Int) ≤ (j : Int) := Int.natCast_nonneg _
            have z1 : (j : Int) < (m : Int) := by omega
            clear hrow
            cases hu : usedB cs (t : Int) j
            · by_cases hc : cs.getD j 0 = (t : Int)
              · have HV : Hid (usedB cs (t : Int) (j + 1) = true) := Lib.hid (by rw [HST.out, hu, decide_eq_true hc]; rfl)
                have ec : (cs.getD j 0 == (t : Int)) = true := by rw [hc]; simp
                clear hc hu HST
                generalize cs.getD j 0 = y at cx ec
                go_wp2
                go_roundw
                case rel => exact ⟨j + 1, by omega, by go_num, by rw [HV.out], trivial⟩
                case measure => simp [intOf]; omega
              · have HV : Hid (usedB cs (t : Int) (j + 1) = false) := Lib.hid (by rw [HST.out, hu, decide_eq_false hc]; rfl)
                have ec : (cs.getD j 0 == (t : Int)) = false := by simpa using hc
                clear hc hu HST
                generalize cs.getD j 0 = y at cx ec
                go_wp2
                go_roundw
                case rel => exact ⟨j + 1, by omega, by go_num, by rw [HV.out], trivial⟩
                case measure => simp [intOf]; omega
            · have HV : Hid (usedB cs (t : Int) (j + 1) = true) := Lib.hid (by rw [HST.out, hu]; rfl)
              clear hu HST
              go_wp2
              go_roundw
              case rel => exact ⟨j + 1, by omega, by go_num, by rw [HV.out], trivial⟩
              case measure => simp [intOf]; omega
          · have hj' : m = j := by omega
            subst hj'
            have HST : Hid (plL cs (t + 1) = plL cs t ++ if usedB cs (t : Int) m = true then [(t : Int)] else []) := Lib.hid (by rw [← HCL.out]; rfl)
            rename World => w1
            cases hu : usedB cs (t : Int) m
            · have HV : Hid (plL cs (t + 1) = plL cs t) := Lib.hid (by rw [HST.out, hu]; simp)
              clear hu HST
              go_wp2
              go_roundw
              case rel => exact ⟨t + 1, g, cp, by omega, by go_num, by rw [HV.out], (fun h => absurd h (by simp)), by rw [HV.out]; exact H2.out.below HB1.out, H3.out.below HB1.out H3.out.lt, H4.out.trans (HB1.out.mono (by omega))⟩
              case measure => simp [intOf]; omega
            · have hv : plL cs (t + 1) = plL cs t ++ [(t : Int)] := by rw [HST.out, hu]; simp
              have HV := Lib.hid hv
              have HVL : Hid ((plL cs (t + 1)).length = (plL cs t).length + 1) := Lib.hid (by rw [hv]; simp)
              have HVM : Hid ((plL cs (t + 1)).map (Value.int .i64) = (plL cs t).map (Value.int .i64) ++ [.int .i64 (t : Int)]) := Lib.hid (by rw [hv]; simp)
              have H2' := Lib.hid (H2.out.below HB1.out)
              clear hu HST hv
              go_wp2_with (at_builtin; refine append_one rfl _ _ 28 rfl Try.underlying28 infoIntP rfl (by omega) rfl (H2'.out.alloc _) (by omega) rfl (new_cell (by simp)) rfl ?_; intro g' c' w5 o5 oo5 l5; have O5 := Lib.hid o5; have OO5 := Lib.hid oo5; clear o5 oo5 l5)
              go_roundw
              case rel =>
                have HA := Below.box w1 (.cells #[.int .i64 (t : Int)] 3 (0, 0))
                refine ⟨t + 1, g', c', by omega, by go_num, by rw [HVL.out], (fun h => absurd h (by simp)), by rw [HVL.out, HVM.out]; exact O5.out, ?_, ?_⟩
                · exact OO5.out.row ((H3.out.below HB1.out H3.out.lt).alloc _) (by omega)
                · exact (H4.out.trans (HB1.out.mono (by omega))).trans ((HA.mono (by omega)).trans (OO5.out.toBelow (by omega) (by simp; omega)))
              case measure => simp [intOf]; omega
    · have ht' : t = 8 := by omega
      subst ht'
      have HV : Hid (platesR d f ss cs k = plL cs 8) := Lib.hid (by
        unfold platesR
        cases ho : colB d f ss cs k
        · have := H1.out ho; omega
        · rfl)
      go_wp2_with (go_at_call 36; fail)
      go_ret
      unfold GetL
      rw [HV.out, HBB.out]
      exact ⟨_, _, rfl, H2.out.sl, Fresh.of (by omega), H4.out⟩
end Go.Proofs.Yteojoifhmaoiaaa
