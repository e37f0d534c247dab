/-
  Contract of TouchingFaces in the reference: the pairs of faces that touch each other along a strip, in their order.
  By an AI agent.
-/
import Derived.Test.YteojoifhmaoiaaaFaceC
import Derived.Test.YteojoifhmaoiaaaBld
import Derived.BigRegion
import Derived.Deep.RegionLaw
import Derived.Deep.AppendLies
namespace Go.Proofs.Yteojoifhmaoiaaa
open Go.ChangeShapes Go.WideShapes Go.ChangeAt Go.RowKit Go.Joins Go.Deep
set_option maxRecDepth 100000
set_option linter.unusedVariables false

/-- The pairs of faces beside each other in the first t tiles. -/
def prL (F : Nat → Nat) (N : Nat) : Nat → List (Nat × Nat)
  | 0 => []
  | t + 1 => prL F N t ++ if 0 < t % N ∧ F t ≠ F (t - 1) then [(min (F t) (F (t - 1)), max (F t) (F (t - 1)))] else []
theorem prL_succ (F : Nat → Nat) (N t : Nat) : prL F N (t + 1) = prL F N t ++ if 0 < t % N ∧ F t ≠ F (t - 1) then [(min (F t) (F (t - 1)), max (F t) (F (t - 1)))] else [] := rfl
/-- Whether the pair of code k is among them. -/
def tbB (F : Nat → Nat) (N m t k : Nat) : Bool := (prL F N t).any fun p => decide (p.1 * m + p.2 = k)
theorem tbB_no {F : Nat → Nat} {N m t k : Nat} (h : ¬ (0 < t % N ∧ F t ≠ F (t - 1))) : tbB F N m (t + 1) k = tbB F N m t k := by
  unfold tbB
  rw [prL_succ, if_neg h, List.append_nil]
theorem tbB_yes {F : Nat → Nat} {N m t k : Nat} (h : 0 < t % N ∧ F t ≠ F (t - 1)) : tbB F N m (t + 1) k = (tbB F N m t k || decide (min (F t) (F (t - 1)) * m + max (F t) (F (t - 1)) = k)) := by
  unfold tbB
  rw [prL_succ, if_pos h, List.any_append]
  simp
theorem prL_one (F : Nat → Nat) (N : Nat) : prL F N 1 = [] := by
  rw [prL_succ, if_neg (by simp)]
  rfl
theorem prL_congr {F G : Nat → Nat} {N m : Nat} (h : ∀ t, t < m → F t = G t) : ∀ t, t ≤ m → prL F N t = prL G N t := by
  intro t
  induction t with
  | zero => intro _; rfl
  | succ t ih =>
    intro ht
    rw [prL_succ, prL_succ, ih (by omega), h t (by omega), h (t - 1) (by omega)]
/-- The pairs of the codes below k that are marked. -/
def tcL (T : Nat → Bool) (m : Nat) : Nat → Rows
  | 0 => []
  | k + 1 => tcL T m k ++ if T k = true then [[((k / m : Nat) : Int), ((k % m : Nat) : Int)]] else []
theorem tcL_len (T : Nat → Bool) (m : Nat) : ∀ k, (tcL T m k).length ≤ k := by
  intro k
  induction k with
  | zero => exact Nat.le_refl _
  | succ k ih =>
    unfold tcL
    rw [List.length_append]
    by_cases h : T k = true
    · rw [if_pos h]; simp; omega
    · rw [if_neg h]; simp; omega
/-- 'append(xs, u)' at a slice of the call's own, at a step of a region that draws its order. -/
theorem step_append_one {P : Program} {ops : Array Oper} {o : Oper} {a : Act} {K : Act → World → Prop} {Q : Exit → Act → World → Prop} {E : Prop} {w : World} (hgd : o.guard = none) (s x : Operand) (t : TypeId)
    (ho : o.op = .call { callee := .builtin .append, args := #[s, x], argTypes := #[t, t] })
    {B : Nat} {e : TypeId} {z : Value} {bytes : Nat} (ht : P.underlying t = some (.slice e)) (hi : (P.info? e).map (fun i => (i.zero, i.size, i.bytes)) = some (some z, 1, bytes)) (hzs : z.cells.size = 1) (hby : bytes ≤ 64)
    {g n c : Nat} {xs : List Value} (hs : a.eval s = .slice (some ⟨g, 0, none⟩) n c) (hown : Own1 w B e g n c xs) (hn : n ≤ 1048576)
    {b : Nat} {u : Value} (hx : a.eval x = .slice (some ⟨b, 0, none⟩) 1 1) (hc : w.cell? ⟨b, 0, none⟩ = some u) (h1 : u.oneCell' = true)
    (h : ∀ g' c' w', Own1 w' B e g' (n + 1) c' (xs ++ [u]) → OnlyB g w w' → (g' = g ∨ g' = w.heap.size) → K (a.put o.dst (.slice (some ⟨g', 0, none⟩) (n + 1) c')) w') :
    if Region.wanted o (yielded ops a.tmps) = true then Oper.wp P o a w K Q else E := by
  obtain ⟨i, hi0, hz0, hz1, hz2⟩ := info_parts hi
  refine step_append_lies w hgd s x t ho B e i z 1 bytes ht hi0 hz0 hz1 hz2 hzs (by omega) _ n xs hs hown ⟨b, 0, none⟩ 1 1 [u] hx rfl ?_ ?_ (by omega) (by unfold maxLen; omega) (Nat.le_trans (Nat.mul_le_mul_left (n + 1) hby) (by omega)) (by have := hown.lt; omega) w.heap.size rfl ?_
  · intro j v hj
    have hj0 : j = 0 := by
      have := (List.getElem?_eq_some_iff.1 hj).1
      simp at this; exact this
    subst hj0
    simp at hj
    subst hj
    rw [add_at]
    exact hc
  · intro v hv
    have := List.mem_singleton.1 hv
    subst this
    exact h1
  · intro g' c' w' o1 g1 l1 _
    refine h g' c' w' o1 (OnlyB.of_grown g1) ?_
    rcases l1 with l1 | l1
    · left; simpa [Value.ownBlock] using l1.symm
    · exact .inr l1
def touchR (d f : Int) (n : Nat) (ss : List ByteArray) (F : Nat → Nat) (k : Nat) : Rows :=
  if cardOkB d f ss = true then tcL (tbB F (d + f).toNat k (n * (d + f).toNat)) k (k * k) else []
theorem infoBoolT : (Try.prog.info? 4).map (fun i => (i.zero, i.size, i.bytes)) = some (some (.bool false), 1, 1) := by kernel_rfl
theorem make_bools (K : Nat) (hK : K ≤ 25600) (W : World) : (Instr.makeSlice 66 (.int .i64 (K : Int)) (.int .i64 (K : Int))).run Try.prog W = .ok (.slice (some ⟨W.heap.size, 0, none⟩) K K) (W.alloc (.cells (madeCells #[.bool false] K) 4)) := by
  obtain ⟨j0, hi0, hz0, hz1, hz2⟩ := info_parts infoBoolT
  have := run_make (P := Try.prog) W 66 4 j0 _ Try.underlying66 hi0 hz0 .i64 .i64 K K (by omega) (Int.le_refl _) (by rw [hz2]; omega) (by omega)
  simpa [hz1, Value.cells] using this
theorem made_false (K j : Nat) (hj : j < K) : (madeCells #[Value.bool false] K).getD j undef = .bool false := by
  simp [madeCells, hj, Nat.mod_one]
theorem i64_small (x : Nat) (h : x ≤ 25600) : IntKind.i64.wrap (x : Int) = (x : Int) := IntWalk.i64_in _ (by omega)
theorem w64_small (x : Nat) (h : x ≤ 25600) : wrap64 (x : Int) = (x : Int) := IntWalk.wrap64_in _ (by omega)
theorem w64_succ (q : Nat) {K : Nat} (h : q < K) (hK : K ≤ 25600) : wrap64 ((q : Int) + 1) = (q : Int) + 1 := IntWalk.wrap64_in _ (by omega)
theorem i64_succ (q : Nat) {K : Nat} (h : q < K) (hK : K ≤ 25600) : IntKind.i64.wrap ((q : Int) + 1) = (q : Int) + 1 := IntWalk.i64_in _ (by omega)
theorem code_lt {a b m : Nat} (ha : a < m) (hb : b < m) : a * m + b < m * m := by
  have := Nat.mul_le_mul_right m (show a + 1 ≤ m from ha)
  rw [Nat.succ_mul] at this
  omega
set_option maxHeartbeats 8000000 in
theorem sTouchingFaces_any (d f : Int) (a : Option Addr) (n c : Nat) (ss : List ByteArray) (F : Nat → Nat) (k : Nat) (w : World) (hF : FcO d f n ss F k) (hl : ss.length = n) (hm : (n : Int) + tot ss n ≤ 1048576) (hR : SlR w a n (sc ss)) :
    Calls Try.prog 29 #[.agg #[.int .i64 d, .int .i64 f, .slice a n c]] w (GetR (touchR d f n ss F k) w) := by
  have hbx : Row (w.alloc (.cells #[.int .i64 d, .int .i64 f, .slice a n c] 26 (0, 0))) w.heap.size 3 (fun j => #[Value.int .i64 d, .int .i64 f, .slice a n c].getD j undef) := Row.of_new w _ _
  have hbd := Bld.start (w.alloc (.cells #[.int .i64 d, .int .i64 f, .slice a n c] 26 (0, 0)))
  have sz1 : (w.alloc (.cells #[.int .i64 d, .int .i64 f, .slice a n c] 26 (0, 0))).heap.size = w.heap.size + 1 := by simp
  rw [sz1] at hbd
  have sz2 : ((w.alloc (.cells #[.int .i64 d, .int .i64 f, .slice a n c] 26 (0, 0))).alloc (.cells #[] 28 (0, 0))).heap.size = w.heap.size + 2 := by simp
  have hbz := (Below.box w (.cells #[.int .i64 d, .int .i64 f, .slice a n c] 26 (0, 0))).alloc (o := .cells #[] 28 (0, 0)) (by simp)
  have HBD := Lib.hid hbd
  have hbx2 := hbx.alloc (.cells #[] 28 (0, 0))
  have b0 := hbx2.cell (i := 0) (by omega)
  have b1 := hbx2.cell (i := 1) (by omega)
  have b2 := hbx2.cell (i := 2) (by omega)
  have HBX := Lib.hid hbx2
  have HBZ := Lib.hid hbz
  have HR := Lib.hid hR
  have HF := Lib.hid hF
  have HL := Lib.hid hl
  clear hbd hbx hbx2 hbz hR hF hl
  go_enter Try.func29, Try.ntmps29
  go_wp2_with fail
  clear sz1
  generalize (w.alloc (.cells #[.int .i64 d, .int .i64 f, .slice a n c] 26 (0, 0))).alloc (.cells #[] 28 (0, 0)) = W at *
  have HR0 : Hid (SlR W a n (sc ss)) := Lib.hid (HR.out.below HBZ.out)
  generalize hbb : w.heap.size = b at *
  have HBB := Lib.hid hbb
  have HW2 := Lib.hid sz2
  clear hbb
  cases ho : cardOkB d f ss
  · have HV : Hid (touchR d f n ss F k = []) := Lib.hid (by unfold touchR; rw [ho]; rfl)
    have HO := Lib.hid ho
    clear ho
    go_wp2_with (go_at_call 47; refine (sCardOk_any _ _ _ _ _ _ _ HL.out hm HR0.out).mono ?_; rw [HO.out]; rintro e w1 ⟨rfl, hb1⟩; have HB1 := Lib.hid hb1; clear hb1)
    go_ret
    exact GetR.nil HV.out (by rw [HBB.out]; exact HBZ.out.trans (HB1.out.mono (by omega))) _ _
  · obtain ⟨N, hC, hFc, h160⟩ := HF.out.yes ho HL.out hm
    have hN : (d + f).toNat = N := by have := hC.sum; omega
    have HV : Hid (touchR d f n ss F k = tcL (tbB F N k (n * N)) k (k * k)) := Lib.hid (by unfold touchR; rw [if_pos ho, hN])
    have s1 : IntKind.i64.wrap (d + f) = (N : Int) := by rw [hC.sum]; exact IntWalk.i64_in _ (by have := hC.bds; omega)
    have HK160 : k ≤ 160 := Nat.le_trans hFc.le h160
    have hNb := hC.bds.2.2.2
    have HC := Lib.hid hC
    have HFc := Lib.hid hFc
    have HO := Lib.hid ho
    clear ho hC hFc hN
    go_wp2_with (go_at_call 47; refine (sCardOk_any _ _ _ _ _ _ _ HL.out hm HR0.out).mono ?_; rw [HO.out]; rintro e w1 ⟨rfl, hb1⟩; have HR1 := Lib.hid (HR0.out.below hb1); have HB1 := Lib.hid hb1; have hsz1 := hb1.size; clear b0 b1 b2; have hbx1 := HBX.out.below hb1 HBX.out.lt; have b0 := hbx1.cell (i := 0) (by omega); have b1 := hbx1.cell (i := 1) (by omega); have b2 := hbx1.cell (i := 2) (by omega); have HBX1 := Lib.hid hbx1; clear hb1 hbx1)
    go_wp2_with (go_at_call 48; refine (l06Faces_any d f _ n c N ss _ HC.out HR1.out).mono ?_; rintro e w2 ⟨g, G, rfl, hg1, hrow, hG, hb2⟩; have HR2 := Lib.hid (HR1.out.below hb2); have HB2 := Lib.hid (HB1.out.trans (hb2.mono hsz1)); have hsz2 := hb2.size; have HG := Lib.hid hG; have HRO := Lib.hid hrow; clear b0 b1 b2; have hbx1 := HBX1.out.below hb2 HBX1.out.lt; have b0 := hbx1.cell (i := 0) (by omega); have b1 := hbx1.cell (i := 1) (by omega); have b2 := hbx1.cell (i := 2) (by omega); have HBX2 := Lib.hid hbx1; clear hb2 hG hrow hbx1)
    go_wp2_with (go_at_call 14; refine (sCountFaces_any d f _ n _ ss F k _ HF.out HL.out hm HR2.out).mono ?_; rintro e w3 ⟨rfl, hb3⟩; have HB3 := Lib.hid (HB2.out.trans (hb3.mono (Nat.le_trans hsz1 hsz2))); have hsz3 := hb3.size; have HRO3 := Lib.hid (HRO.out.below hb3 HRO.out.lt); clear b0 b1 b2 hb3)
    obtain ⟨j0, hi0, hz0, hz1, hz2⟩ := info_parts infoBoolT
    have hM2 : 2 ≤ n * N := Nat.mul_le_mul HC.out.bds.2.1 hNb.1
    have HGF : Hid (∀ t, t < n * N → G t = F t) := Lib.hid (HFc.out.eq _ HG.out)
    have HGL : Hid (∀ t, t < n * N → G t < k) := Lib.hid (fun t ht => by rw [← HFc.out.top _ HG.out]; exact lt_top ht)
    have HKK : k * k ≤ 25600 := Nat.mul_le_mul HK160 HK160
    have s2 : IntKind.i64.wrap ((k : Int) * (k : Int)) = ((k * k : Nat) : Int) := by rw [← Int.natCast_mul]; exact IntWalk.i64_in _ (by omega)
    have s3 : wrap64 ((k : Int) * (k : Int)) = ((k * k : Nat) : Int) := by rw [← Int.natCast_mul]; exact IntWalk.wrap64_in _ (by omega)
    have HCL : Hid (∀ x y, x < k → y < k → x * k + y < k * k) := Lib.hid (fun x y hx hy => code_lt hx hy)
    have HV2 : Hid (touchR d f n ss F k = tcL (tbB G N k (n * N)) k (k * k)) := Lib.hid (by
      rw [HV.out]
      unfold tbB
      rw [prL_congr (fun t ht => (HGF.out t ht).symm) (n * N) (Nat.le_refl _)])
    generalize hM : n * N = M at *
    generalize hK : k * k = K at *
    have HKd := Lib.hid hK
    have hgl3 := HRO3.out.lt
    clear hM hK HC HFc HF HG HGF HR HR0 HR1 HR2 HBX HBX1 HBX2 HB1 HB2 HRO HV
    have MK : ∀ W : World, (Instr.makeSlice 66 (.int .i64 (wrap64 ((k : Int) * (k : Int)))) (.int .i64 (wrap64 ((k : Int) * (k : Int))))).run Try.prog W = .ok (.slice (some ⟨W.heap.size, 0, none⟩) K K) (W.alloc (.cells (madeCells #[.bool false] K) 4)) := fun W => by
      rw [s3]
      exact make_bools K HKK W
    have HW4 : Hid (Row (w3.alloc (.cells (madeCells #[.bool false] K) 4)) w3.heap.size K (fun q => .bool (tbB G N k 1 q))) := Lib.hid (((Row.of_new w3 (madeCells #[.bool false] K) 4).mono (M := K) (by simp [madeCells])).congr fun j hj => by (rw [made_false K j hj]; unfold tbB; rw [prL_one]; rfl))
    have HA4 := Lib.hid (Below.box w3 (.cells (madeCells #[.bool false] K) 4 (0, 0)))
    go_wp2_with fail
    rw [MK]
    go_wp2_with fail
    have HS2 := Lib.hid s2
    have HS3 := Lib.hid s3
    clear MK s2 s3
    generalize w3.alloc (.cells (madeCells #[.bool false] K) 4) = w4 at *
    have HT0 := HW4
    have HB4 := HA4
    clear HW4 HA4
    have HRO4 := Lib.hid (HRO3.out.below HB4.out hgl3)
    have HBD4 := Lib.hid ((HBD.out.below HB3.out).below HB4.out)
    have HB5 : Hid (Below b w w4) := Lib.hid (HBZ.out.trans ((HB3.out.mono (by omega)).trans (HB4.out.mono (by omega))))
    have hszT := HT0.out.lt
    clear HB3 HB4 HRO3 HBD HBZ
    generalize hRR : w3.heap.size = R at *
    clear hRR
    go_loopw [8] (fun x wx => ∃ t : Nat, 1 ≤ t ∧ t ≤ M ∧ x = .int .i64 t ∧ Row wx R K (fun q => .bool (tbB G N k t q)) ∧ OnlyB R w4 wx) (fun x _ => M - (intOf x).toNat)
    case atStart => exact ⟨1, Nat.le_refl _, by omega, rfl, HT0.out, OnlyB.refl _ _⟩
    case round =>
      obtain ⟨t, ht1, ht, rfl, h1, h2⟩ := hrel
      rename World => wx
      have H1 := Lib.hid h1
      have H2 := Lib.hid h2
      clear h1 h2
      by_cases hlt : t < M
      · obtain ⟨tp, htp⟩ : ∃ tp, tp = t - 1 := ⟨_, rfl⟩
        obtain ⟨s, hs⟩ : ∃ s, s = t % N := ⟨_, rfl⟩
        have HS := Lib.hid hs
        have HTP := Lib.hid htp
        have r1 : (t : Int) % (N : Int) = (s : Int) := by rw [hs, Int.natCast_emod]
        have r2 : (t : Int).tmod (N : Int) = (s : Int) := by rw [Int.tmod_eq_emod_of_nonneg (Int.natCast_nonneg _)]; exact r1
        have n0 : ((N : Int) == 0) = false := by simp; omega
        have n1 : ¬ N = 0 := by omega
        have e2 : IntKind.i64.wrap ((t : Int) - 1) = (tp : Int) := by rw [show (t : Int) - 1 = (tp : Int) by omega]; exact IntWalk.i64_in _ (by omega)
        have HROx : Hid (Row wx g M (nc G)) := Lib.hid (H2.out.row HRO4.out (by omega))
        have cg := HROx.out.cell hlt
        have cp := HROx.out.cell (i := tp) (by omega)
        have k2 : (0 : Int) ≤ (tp : Int) := Int.natCast_nonneg _
        have k3 : (tp : Int) < (M : Int) := by omega
        have k4 : (0 : Int) ≤ (t : Int) := Int.natCast_nonneg _
        have k5 : (t : Int) < (M : Int) := by omega
        have hGt := HGL.out t hlt
        have hGp := HGL.out tp (by omega)
        unfold nc at cg cp
        clear hs htp
        by_cases hs0 : s = 0
        · have p0 : decide ((s : Int) > 0) = false := decide_eq_false (by omega)
          have p0n : decide (0 < s) = false := decide_eq_false (by omega)
          have HN : Hid (∀ q, tbB G N k (t + 1) q = tbB G N k t q) := Lib.hid (fun q => tbB_no (fun h => by have := HS.out; omega))
          clear hs0
          go_wp2
          go_quiet (fail)
          go_wp2
          go_roundw
          case rel => exact ⟨t + 1, by omega, by omega, by go_num, H1.out.congr (fun q _ => by rw [HN.out q]) |>.of_heap rfl, ⟨H2.out.os, H2.out.tape, H2.out.output, H2.out.size, H2.out.block⟩⟩
          case measure => simp [intOf]; omega
        · have p0 : decide ((s : Int) > 0) = true := decide_eq_true (by omega)
          have p0n : decide (0 < s) = true := decide_eq_true (by omega)
          have p1 : 0 < s := by omega
          by_cases hgg : G t = G tp
          · have eg : (((G t : Nat) : Int) != ((G tp : Nat) : Int)) = false := by rw [hgg]; simp
            have HN : Hid (∀ q, tbB G N k (t + 1) q = tbB G N k t q) := Lib.hid (fun q => tbB_no (fun h => by rw [← HTP.out] at h; exact h.2 hgg))
            clear hs0 hgg
            go_wp2
            go_quiet (fail)
            go_wp2
            go_roundw
            case rel => exact ⟨t + 1, by omega, by omega, by go_num, H1.out.congr (fun q _ => by rw [HN.out q]) |>.of_heap rfl, ⟨H2.out.os, H2.out.tape, H2.out.output, H2.out.size, H2.out.block⟩⟩
            case measure => simp [intOf]; omega
          · have eg : (((G t : Nat) : Int) != ((G tp : Nat) : Int)) = true := by simp; intro h; exact hgg (by omega)
            obtain ⟨A, hA⟩ : ∃ A, A = min (G t) (G tp) := ⟨_, rfl⟩
            obtain ⟨B, hB⟩ : ∃ B, B = max (G t) (G tp) := ⟨_, rfl⟩
            obtain ⟨q0, hq0⟩ : ∃ q0, q0 = A * k + B := ⟨_, rfl⟩
            have hq1 : q0 < K := by rw [hq0]; exact HCL.out A B (by omega) (by omega)
            have HN : Hid (∀ q, tbB G N k (t + 1) q = (tbB G N k t q || decide (q0 = q))) := Lib.hid (fun q => by
              have hc : 0 < t % N ∧ G t ≠ G (t - 1) := by rw [← HTP.out, ← HS.out]; exact ⟨p1, hgg⟩
              rw [tbB_yes hc, ← HTP.out, ← hA, ← hB, ← hq0])
            have k6 : (0 : Int) ≤ (q0 : Int) := Int.natCast_nonneg _
            have k7 : (q0 : Int) < (K : Int) := by omega
            rcases Nat.lt_or_ge (G t) (G tp) with hgl | hgl
            · have m1 : ((G t : Nat) : Int) < ((G tp : Nat) : Int) := by omega
              have hA' : A = G t := by omega
              have hB' : B = G tp := by omega
              have hAk : A * k ≤ 25600 := by have h := hq1; rw [hq0] at h; exact Nat.le_trans (Nat.le_add_right _ _) (Nat.le_trans (Nat.le_of_lt h) HKK)
              have hq2 : q0 ≤ 25600 := Nat.le_trans (Nat.le_of_lt hq1) HKK
              have e3 : IntKind.i64.wrap ((A : Int) * (k : Int)) = ((A * k : Nat) : Int) := by rw [← Int.natCast_mul]; exact i64_small _ (by assumption)
              have e4 : IntKind.i64.wrap (((A * k : Nat) : Int) + (B : Int)) = (q0 : Int) := by rw [show ((A * k : Nat) : Int) + (B : Int) = (q0 : Int) by rw [hq0]; exact (Int.natCast_add _ _).symm]; exact i64_small _ (by assumption)
              have e5 : wrap64 ((A : Int) * (k : Int) + (B : Int)) = (q0 : Int) := by rw [← Int.natCast_mul, show ((A * k : Nat) : Int) + (B : Int) = (q0 : Int) by rw [hq0]; exact (Int.natCast_add _ _).symm]; exact w64_small _ (by assumption)
              clear hs0 hgg hA hB hq0 hAk hq2
              subst hA' hB'
              go_wp2
              go_quiet (fail)
              go_wp2
              have HYR : Hid (Row (wx.drewN nq) g M (nc G)) := Lib.hid (HROx.out.of_heap rfl)
              have HY1 : Hid (Row (wx.drewN nq) R K (fun q => .bool (tbB G N k t q))) := Lib.hid (H1.out.of_heap rfl)
              have HY2 : Hid (OnlyB R w4 (wx.drewN nq)) := Lib.hid ⟨H2.out.os, H2.out.tape, H2.out.output, H2.out.size, H2.out.block⟩
              generalize wx.drewN nq = wy at *
              clear cg cp
              have cg := HYR.out.cell hlt
              have cp := HYR.out.cell (i := tp) (by omega)
              have ct := HY1.out.cell hq1
              have ft := HY1.out.frozen q0
              unfold nc at cg cp
              have HST : Hid (Row (wy.setCell ⟨R, q0, none⟩ (.bool true)) R K (fun q => .bool (tbB G N k (t + 1) q))) := Lib.hid ((HY1.out.set q0 _).congr (fun q _ => by
                rw [HN.out q]
                by_cases e : q = q0
                · subst e; rw [if_pos rfl, decide_eq_true rfl, Bool.or_true]
                · rw [if_neg e, decide_eq_false (fun h => e h.symm), Bool.or_false]))
              have HSO := Lib.hid (HY2.out.set q0 (.bool true))
              go_region
              go_wp2
              clear e3 e4 e5
              go_roundw
              case rel => exact ⟨t + 1, by omega, by omega, by go_num, HST.out.of_heap rfl, ⟨HSO.out.os, HSO.out.tape, HSO.out.output, HSO.out.size, HSO.out.block⟩⟩
              case measure => simp [intOf]; omega
            · have hgl2 : G tp < G t := by omega
              have m1 : ((G tp : Nat) : Int) < ((G t : Nat) : Int) := by omega
              have hA' : A = G tp := by omega
              have hB' : B = G t := by omega
              have hAk : A * k ≤ 25600 := by have h := hq1; rw [hq0] at h; exact Nat.le_trans (Nat.le_add_right _ _) (Nat.le_trans (Nat.le_of_lt h) HKK)
              have hq2 : q0 ≤ 25600 := Nat.le_trans (Nat.le_of_lt hq1) HKK
              have e3 : IntKind.i64.wrap ((A : Int) * (k : Int)) = ((A * k : Nat) : Int) := by rw [← Int.natCast_mul]; exact i64_small _ (by assumption)
              have e4 : IntKind.i64.wrap (((A * k : Nat) : Int) + (B : Int)) = (q0 : Int) := by rw [show ((A * k : Nat) : Int) + (B : Int) = (q0 : Int) by rw [hq0]; exact (Int.natCast_add _ _).symm]; exact i64_small _ (by assumption)
              have e5 : wrap64 ((A : Int) * (k : Int) + (B : Int)) = (q0 : Int) := by rw [← Int.natCast_mul, show ((A * k : Nat) : Int) + (B : Int) = (q0 : Int) by rw [hq0]; exact (Int.natCast_add _ _).symm]; exact w64_small _ (by assumption)
              clear hs0 hgg hA hB hq0 hAk hq2
              subst hA' hB'
              go_wp2
              go_quiet (fail)
              go_wp2
              have HYR : Hid (Row (wx.drewN nq) g M (nc G)) := Lib.hid (HROx.out.of_heap rfl)
              have HY1 : Hid (Row (wx.drewN nq) R K (fun q => .bool (tbB G N k t q))) := Lib.hid (H1.out.of_heap rfl)
              have HY2 : Hid (OnlyB R w4 (wx.drewN nq)) := Lib.hid ⟨H2.out.os, H2.out.tape, H2.out.output, H2.out.size, H2.out.block⟩
              generalize wx.drewN nq = wy at *
              clear cg cp
              have cg := HYR.out.cell hlt
              have cp := HYR.out.cell (i := tp) (by omega)
              have ct := HY1.out.cell hq1
              have ft := HY1.out.frozen q0
              unfold nc at cg cp
              have HST : Hid (Row (wy.setCell ⟨R, q0, none⟩ (.bool true)) R K (fun q => .bool (tbB G N k (t + 1) q))) := Lib.hid ((HY1.out.set q0 _).congr (fun q _ => by
                rw [HN.out q]
                by_cases e : q = q0
                · subst e; rw [if_pos rfl, decide_eq_true rfl, Bool.or_true]
                · rw [if_neg e, decide_eq_false (fun h => e h.symm), Bool.or_false]))
              have HSO := Lib.hid (HY2.out.set q0 (.bool true))
              go_region
              go_wp2
              clear e3 e4 e5
              go_roundw
              case rel => exact ⟨t + 1, by omega, by omega, by go_num, HST.out.of_heap rfl, ⟨HSO.out.os, HSO.out.tape, HSO.out.output, HSO.out.size, HSO.out.block⟩⟩
              case measure => simp [intOf]; omega
      · have ht' : t = M := by omega
        subst ht'
        obtain ⟨i0, hi0', hz0', hz1', hz2'⟩ := info_parts infoRowB
        have hwx := H2.out.size
        have hbsz := HB5.out.size
        have HB6 : Hid (Below b w wx) := Lib.hid (HB5.out.trans (H2.out.toBelow (by omega) (by omega)))
        have HBD6 : Hid (Bld wx (b + 1) (b + 1) 0 [] (fun _ => 0)) := Lib.hid ⟨(HBD4.out.own).keep H2.out (by omega), fun i hi => absurd hi (Nat.not_lt_zero i)⟩
        have HT6 := H1
        have hRl := H1.out.lt
        clear H1 H2 HBD4 HRO4 HB5 HT0 HCL HGL
        obtain ⟨T, hT⟩ : ∃ T, T = tbB G N k t := ⟨_, rfl⟩
        have HVT : Hid (touchR d f n ss F k = tcL T k K) := Lib.hid (by rw [HV2.out, hT])
        have HTT : Hid (Row wx R K (fun q => .bool (T q))) := Lib.hid (by rw [hT]; exact HT6.out)
        have HLEN : Hid (∀ q, (tcL T k q).length ≤ q) := Lib.hid (tcL_len T k)
        clear hT HT6 HV2
        go_wp2
        go_loopw [3, 9] (fun v x wo => ∃ (q go cp : Nat) (A : Nat → Nat), q ≤ K ∧ x = .int .i64 q ∧ v = .slice (some ⟨go, 0, none⟩) (tcL T k q).length cp ∧ Bld wo (b + 1) go cp (tcL T k q) A ∧ go ≠ R ∧ (∀ i, i < (tcL T k q).length → A i ≠ R) ∧ Row wo R K (fun q => .bool (T q)) ∧ Below b w wo ∧ wx.heap.size ≤ wo.heap.size) (fun _ x _ => K - (intOf x).toNat)
        case atStart => exact ⟨0, b + 1, 0, _, Nat.zero_le _, rfl, rfl, HBD6.out, by omega, fun i hi => absurd hi (Nat.not_lt_zero i), HTT.out, HB6.out, Nat.le_refl _⟩
        case round =>
          obtain ⟨q, go, cp, A, hq, rfl, rfl, h1, h2, h3, h4, h5, h6⟩ := hrel
          rename World => wo
          have J1 := Lib.hid h1
          have J3 := Lib.hid h3
          have J4 := Lib.hid h4
          have J5 := Lib.hid h5
          clear h1 h3 h4 h5
          by_cases hlq : q < K
          · have ct := J4.out.cell hlq
            have hlen := HLEN.out q
            have hlt2 : (q : Int) < (K : Int) := by omega
            cases hTq : T q
            · rw [hTq] at ct
              have hv : tcL T k (q + 1) = tcL T k q := by show tcL T k q ++ _ = _; rw [if_neg (by rw [hTq]; simp), List.append_nil]
              have HNEXT := Lib.hid hv
              clear hv hTq
              have e9 : wrap64 ((q : Int) + 1) = (q : Int) + 1 := w64_succ q hlq HKK
              have e8 : IntKind.i64.wrap ((q : Int) + 1) = (q : Int) + 1 := i64_succ q hlq HKK
              have s3 := HS3.out
              go_wp2
              clear s3
              try rw [e9]
              clear e9 e8
              go_roundw
              case rel => exact ⟨q + 1, go, cp, A, by omega, by go_num, by rw [HNEXT.out], by rw [HNEXT.out]; exact J1.out, h2, by rw [HNEXT.out]; exact J3.out, J4.out, J5.out, h6⟩
              case measure => simp [intOf]; omega
            · rw [hTq] at ct
              obtain ⟨x0, hx0⟩ : ∃ x0, x0 = q / k := ⟨_, rfl⟩
              obtain ⟨y0, hy0⟩ : ∃ y0, y0 = q % k := ⟨_, rfl⟩
              have hv : tcL T k (q + 1) = tcL T k q ++ [[(x0 : Int), (y0 : Int)]] := by rw [hx0, hy0]; show tcL T k q ++ _ = _; rw [if_pos hTq]
              have HNEXT := Lib.hid hv
              have HNL : Hid ((tcL T k (q + 1)).length = (tcL T k q).length + 1) := Lib.hid (by rw [hv, List.length_append]; rfl)
              have hk0 : 0 < k := by
                rcases Nat.eq_zero_or_pos k with e | e
                · exfalso
                  have := HKd.out
                  subst e
                  omega
                · exact e
              have n0 : ((k : Int) == 0) = false := by simp; omega
              have n1 : ¬ k = 0 := by omega
              have hx1 : x0 ≤ 25600 := by rw [hx0]; exact Nat.le_trans (Nat.div_le_self q k) (Nat.le_trans hq HKK)
              have r3 : IntKind.i64.wrap ((q : Int) / (k : Int)) = (x0 : Int) := by rw [← Int.natCast_ediv, ← hx0]; exact i64_small _ hx1
              have r4 : (q : Int).tmod (k : Int) = (y0 : Int) := by rw [Int.tmod_eq_emod_of_nonneg (Int.natCast_nonneg _), hy0]; exact (Int.natCast_emod q k).symm
              have HX1 := Lib.hid (Below.box wo (.cells #[.int .i64 (x0 : Int), .int .i64 (y0 : Int)] 3 (0, 0)))
              have hsX : (wo.alloc (.cells #[.int .i64 (x0 : Int), .int .i64 (y0 : Int)] 3 (0, 0))).heap.size = wo.heap.size + 1 := by simp
              have HX2 : Hid (Below wo.heap.size wo ((wo.alloc (.cells #[.int .i64 (x0 : Int), .int .i64 (y0 : Int)] 3 (0, 0))).alloc (.cells #[.slice (some ⟨wo.heap.size, 0, none⟩) 2 2] 28 (0, 0))).drew) := Lib.hid ((HX1.out.alloc (by omega) _).drew)
              have HOWN : Hid (Own1 ((wo.alloc (.cells #[.int .i64 (x0 : Int), .int .i64 (y0 : Int)] 3 (0, 0))).alloc (.cells #[.slice (some ⟨wo.heap.size, 0, none⟩) 2 2] 28 (0, 0))).drew (b + 1) 28 go (tcL T k q).length cp (hdv A (tcL T k q))) := Lib.hid (((J1.out.own.alloc _).alloc _).drew)
              have HCEL : Hid (((wo.alloc (.cells #[.int .i64 (x0 : Int), .int .i64 (y0 : Int)] 3 (0, 0))).alloc (.cells #[.slice (some ⟨wo.heap.size, 0, none⟩) 2 2] 28 (0, 0))).drew.cell? ⟨wo.heap.size + 1, 0, none⟩ = some (.slice (some ⟨wo.heap.size, 0, none⟩) 2 2)) := Lib.hid (new_cellD hsX.symm)
              have HXR : Hid (Row ((wo.alloc (.cells #[.int .i64 (x0 : Int), .int .i64 (y0 : Int)] 3 (0, 0))).alloc (.cells #[.slice (some ⟨wo.heap.size, 0, none⟩) 2 2] 28 (0, 0))).drew wo.heap.size 2 (ic [(x0 : Int), (y0 : Int)])) := Lib.hid ((((Row.of_new wo #[.int .i64 (x0 : Int), .int .i64 (y0 : Int)] 3).alloc _).drew).congr (fun i hi => by
                have hi2 : i = 0 ∨ i = 1 := by simp at hi; omega
                rcases hi2 with rfl | rfl <;> rfl))
              have HSZ2 : Hid (((wo.alloc (.cells #[.int .i64 (x0 : Int), .int .i64 (y0 : Int)] 3 (0, 0))).alloc (.cells #[.slice (some ⟨wo.heap.size, 0, none⟩) 2 2] 28 (0, 0))).drew.heap.size = wo.heap.size + 2) := Lib.hid (by simp)
              have hRo := J4.out.lt
              have hbo := J5.out.size
              clear hv hTq hx0 hy0 hx1 hk0 hsX
              have s3 := HS3.out
              go_wp2
              clear s3
              go_region_law (refine step_append_one rfl (.tmp 86) (.tmp 94) 31 rfl Try.underlying31 infoRowB rfl (by omega) (by simp [Act.eval, Act.put]) HOWN.out (by omega) (by simp [Act.eval, Act.put]) HCEL.out rfl ?_; intro g' c' w5 o5 oo5 l5; have O5 := Lib.hid o5; have OO5 := Lib.hid oo5; have L5 := Lib.hid l5; clear o5 oo5 l5)
              all_goals
                have hgo := J1.out.own.lt
                have hg' : g' ≠ R := by
                  rcases L5.out with h | h
                  · rw [h]; exact h2
                  · rw [HSZ2.out] at h; omega
                have HPU : Hid (Bld w5 (b + 1) g' c' (tcL T k (q + 1)) (fun i => if i = (tcL T k q).length then wo.heap.size else A i)) := Lib.hid (by rw [HNEXT.out]; exact J1.out.push HX2.out (Nat.le_refl _) HXR.out (by omega) O5.out OO5.out L5.out)
                have HJ3 : Hid (∀ i, i < (tcL T k (q + 1)).length → (fun i => if i = (tcL T k q).length then wo.heap.size else A i) i ≠ R) := Lib.hid (fun i hi => by
                  rw [HNL.out] at hi
                  by_cases e : i = (tcL T k q).length
                  · simp only [if_pos e]; omega
                  · simp only [if_neg e]; exact J3.out i (by omega))
                have HJ4 : Hid (Row w5 R K (fun q => .bool (T q))) := Lib.hid (OO5.out.row (J4.out.below HX2.out hRo) (fun e => h2 e.symm))
                have hsz5 := OO5.out.size
                rw [HSZ2.out] at hsz5
                have HJ5 : Hid (Below b w w5) := Lib.hid (J5.out.trans ((HX2.out.mono (by omega)).trans (OO5.out.toBelow (by omega) (by rw [HSZ2.out]; omega))))
                have e9 : wrap64 ((q : Int) + 1) = (q : Int) + 1 := w64_succ q hlq HKK
                go_wp2
                try rw [e9]
                clear e9 r3 r4
                go_roundw
                case rel => exact ⟨q + 1, g', c', _, by omega, by go_num, by rw [HNL.out], HPU.out, hg', HJ3.out, HJ4.out, HJ5.out, by omega⟩
                case measure => simp [intOf]; omega
          · have hq' : q = K := by omega
            subst hq'
            have s3 := HS3.out
            go_wp2
            clear s3
            go_ret
            unfold GetR
            rw [HVT.out, HBB.out]
            exact ⟨_, _, rfl, .inr ⟨go, rfl, J1.out.ost.mono (by omega)⟩, J5.out⟩
end Go.Proofs.Yteojoifhmaoiaaa
