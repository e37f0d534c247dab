/-
  The shortest order in the reference: contracts of l20Search and ShortestOrder.
  By an AI agent.
-/
import Derived.Test.YtlplfpoggifadaaShort
import Derived.Test.YtlplfpoggifadaaNearS
import Derived.Test.YtlplfpoggifadaaOwnA
import Derived.Deep.RegionLaw
import Derived.Deep.RegionHeld3
import Derived.Deep.DeepCutAuto
namespace Go.Proofs.Ytlplfpoggifadaa
open Go.ChangeShapes Go.WideShapes Go.ChangeAt Go.RowKit Go.Joins Go.Deep
set_option maxRecDepth 100000
set_option linter.unusedVariables false

theorem Own1.of_v {w : World} {B n : Nat} {e : TypeId} {v : Value} {xs : List Value} (h : w.ownsRow B e 1 v n xs) (hv : v ≠ .slice none 0 0) : ∃ g c, v = .slice (some ⟨g, 0, none⟩) n c ∧ Own1 w B e g n c xs := by
  rcases h.2 with hn | ⟨f, cap, cur, hv', rest⟩
  · exact absurd hn.1 hv
  · subst hv'
    exact ⟨f, cap, rfl, h⟩
theorem Row.drewR {w : World} {g N : Nat} {c : Nat → Value} (h : Row w g N c) : Row w.drew g N c := h.of_heap rfl
theorem own_weak {w : World} {B B' g n c : Nat} {e : TypeId} {xs : List Value} (h : Own1 w B e g n c xs) (hB : B' ≤ B) : Own1 w B' e g n c xs := by
  refine ⟨h.1, ?_⟩
  rcases h.2 with hn | ⟨f, cap, cur, hv, hb, rest⟩
  · exact .inl hn
  · exact .inr ⟨f, cap, cur, hv, Nat.le_trans hB hb, rest⟩
theorem fresh_weak {B B' N : Nat} {a : Option Addr} (h : Fresh B a N) (hB : B' ≤ B) : Fresh B' a N := by
  rcases h with h | ⟨g, h1, h2⟩
  · exact .inl h
  · exact .inr ⟨g, h1, Nat.le_trans hB h2⟩
/-- 'append([]int{}, ys...)', in a region that draws its order. -/
theorem step_append_many {P : Program} {ops : Array Oper} {o : Oper} {a : Act} {K : Act → World → Prop} {Q : Exit → Act → World → Prop} {E : Prop} {w : World} (hgd : o.guard = none) (s x : Operand) (t : TypeId)
    (ho : o.op = .call { callee := .builtin .append, args := #[s, x], argTypes := #[t, t] })
    {B : Nat} {e : TypeId} {z : Value} {bytes : Nat} (ht : P.underlying t = some (.slice e)) (hi : (P.info? e).map (fun i => (i.zero, i.size, i.bytes)) = some (some z, 1, bytes)) (hzs : z.cells.size = 1) (hby : bytes ≤ 64)
    {g c : Nat} (hs : a.eval s = .slice (some ⟨g, 0, none⟩) 0 c) (hown : Own1 w B e g 0 c []) (hB : B ≤ w.heap.size)
    {b m cx : Nat} {zs : List Int} (hn : m ≤ 1048576) (hx : a.eval x = .slice (some ⟨b, 0, none⟩) m cx) (hc : Row w b m (ic zs))
    (h : ∀ g' c' w', Own1 w' B e g' m c' (rowL (ic zs) m) → OnlyB g w w' → K (a.put o.dst (.slice (some ⟨g', 0, none⟩) m c')) w') :
    if Region.wanted o (yielded ops a.tmps) = true then Oper.wp P o a w K Q else E := by
  obtain ⟨i, hi0, hz0, hz1, hz2⟩ := info_parts hi
  have hw : Region.wanted o (yielded ops a.tmps) = true := by simp [Region.wanted, hgd]
  rw [if_pos hw]
  refine wp_append_own w s x t ho B e i z 1 bytes ht hi0 hz0 hz1 hz2 hzs (by omega) _ 0 [] hs hown ⟨b, 0, none⟩ m cx (rowL (ic zs) m) hx (by rw [rowL_length, Nat.mul_one]) (rowL_news hc) (rowL_one fun i _ => ic_one zs i) (by unfold maxLen; omega) (Nat.le_trans (Nat.mul_le_mul_left (0 + m) hby) (by omega)) hB ?_
  intro v' w' o1 g1 n1
  obtain ⟨g', c', rfl, O⟩ := Own1.of_v o1 (fun e => by have := (n1.1 e).1; simp at this)
  rw [Nat.zero_add, List.nil_append] at O
  rw [Nat.zero_add]
  exact h g' c' w' O (OnlyB.of_grown g1)
theorem wpl_append_many {P : Program} {ops : Array Oper} {rest : List Oper} {o : Oper} {a : Act} {Q : Exit → Act → World → Prop} {w : World} (hgd : o.guard = none) (s x : Operand) (t : TypeId)
    (ho : o.op = .call { callee := .builtin .append, args := #[s, x], argTypes := #[t, t] })
    {B : Nat} {e : TypeId} {z : Value} {bytes : Nat} (ht : P.underlying t = some (.slice e)) (hi : (P.info? e).map (fun i => (i.zero, i.size, i.bytes)) = some (some z, 1, bytes)) (hzs : z.cells.size = 1) (hby : bytes ≤ 64)
    {g n c : Nat} {xs : List Value} (hs : a.eval s = .slice (some ⟨g, 0, none⟩) n c) (hown : Own1 w B e g n c xs) (hB : B ≤ w.heap.size)
    {b m cx : Nat} {zs : List Int} (hn : n + m ≤ 1048576) (hx : a.eval x = .slice (some ⟨b, 0, none⟩) m cx) (hc : Row w b m (ic zs))
    (h : ∀ g' c' w', Own1 w' B e g' (n + m) c' (xs ++ rowL (ic zs) m) → Below B w w' → wpList P ops Q rest (a.put o.dst (.slice (some ⟨g', 0, none⟩) (n + m) c')) w') : wpList P ops Q (o :: rest) a w := by
  obtain ⟨i, hi0, hz0, hz1, hz2⟩ := info_parts hi
  refine wpList_append_own w hgd s x t ho B e i z 1 bytes ht hi0 hz0 hz1 hz2 hzs (by omega) _ n xs hs hown ⟨b, 0, none⟩ m cx (rowL (ic zs) m) hx (by rw [rowL_length, Nat.mul_one]) (rowL_news hc) (rowL_one fun i _ => ic_one zs i) (by unfold maxLen; omega) (Nat.le_trans (Nat.mul_le_mul_left (n + m) hby) (by omega)) hB ?_
  intro v' w' o1 g1 n1
  obtain ⟨g', c', rfl, O⟩ := Own1.of_v o1 (fun e => by have := (n1.1 e).1; simp at this)
  exact h g' c' w' O (below_grown (OwnA.of1 hown) hB g1)
theorem rowL_ic (zs : List Int) : rowL (ic zs) zs.length = zs.map (Value.int .i64) := by
  apply List.ext_getElem
  · simp [rowL]
  · intro i h1 h2
    have hi : i < zs.length := by simpa using h2
    simp [rowL, ic, List.getD, hi]
theorem new_cell2 {w : World} {v : Value} {e e' : TypeId} {b : Nat} (hb : b = w.heap.size + 1) : ((w.alloc (.cells #[] e)).alloc (.cells #[v] e')).drew.cell? ⟨b, 0, none⟩ = some v := by
  subst hb
  simp
theorem new_cell1 {w : World} {v : Value} {e e' : TypeId} {b : Nat} (hb : b = w.heap.size) : ((w.alloc (.cells #[v] e')).alloc (.cells #[] e)).drew.cell? ⟨b, 0, none⟩ = some v := by
  subst hb
  exact ((Row.of_new w #[v] e').alloc _).cell (i := 0) (by simp)
theorem cell_only {w w' : World} {k b : Nat} {v : Value} (h : OnlyB k w w') (hn : b ≠ k) (hc : w.cell? ⟨b, 0, none⟩ = some v) : w'.cell? ⟨b, 0, none⟩ = some v := by
  have hl := World.block_lt_of_cell? _ _ hc
  have e := h.block b hl hn
  unfold World.cell? at hc ⊢
  simpa [e] using hc
theorem row_push {w : World} {B g m c : Nat} {e : TypeId} {L : List Int} {q : Int} (h : Own1 w B e g (m + 1) c (rowL (ic L) m ++ [.int .i64 q])) (hm : L.length = m) : Row w g (m + 1) (ic (L ++ [q])) := by
  subst hm
  rw [rowL_ic] at h
  have h' : Own1 w B e g (L.length + 1) c ((L ++ [q]).map (Value.int .i64)) := by simpa using h
  exact h'.cells
theorem cell_alloc {w : World} {o : Obj} {p : Addr} {v : Value} (h : w.cell? p = some v) : (w.alloc o).cell? p = some v :=
  ((Below.box w o).cell (World.block_lt_of_cell? _ _ h)).trans h
/-- What the search hands back. -/
def SrP (ps : List DCut) (f : Nat) (L : List Int) (w : World) (e : Ending) (w' : World) : Prop :=
  ∃ a c, e = .returned (.tuple #[.slice a (srch ps f L).1.length c, .int .i64 (srch ps f L).2]) ∧ SlR w' a (srch ps f L).1.length (ic (srch ps f L).1) ∧ Fresh w.heap.size a (srch ps f L).1.length ∧ Below w.heap.size w w'
/-- What the cut around the call holds. -/
def SrC (ps : List DCut) (f : Nat) (L : List Int) (w : World) (v nn : Value) (w' : World) : Prop :=
  ∃ a c, v = .slice a (srch ps f L).1.length c ∧ nn = .int .i64 (srch ps f L).2 ∧ SlR w' a (srch ps f L).1.length (ic (srch ps f L).1) ∧ Fresh w.heap.size a (srch ps f L).1.length ∧ Below w.heap.size w w'
def SrIH (ps : List DCut) (f : Nat) : Prop := ∀ (g n c h m cH : Nat) (L : List Int) (r p y : Int) (w : World), ps.length = n → n ≤ 6 → Row w g (n * 3) (cc ps) → ordOk n L → L.length = m → m + f = n → kst ps L = (r, p, y) → Row w h m (ic L) →
  Calls Try.prog 46 #[.slice (some ⟨g, 0, none⟩) n c, .slice (some ⟨h, 0, none⟩) m cH, .int .i64 r, .int .i64 p, .int .i64 y] w (SrP ps f L w)
set_option maxHeartbeats 1000000 in
theorem sr_zero (ps : List DCut) (hC : cAll ps = true) : SrIH ps 0 := by
  intro g n c h m cH L r p y w hl h6 hR hO hm hf hk hH
  have e0 : ((m : Int) == (n : Int)) = true := by simp; omega
  have h16 : m ≤ 6 := by omega
  have hS : srch ps 0 L = (L, y) := by show (L, (kst ps L).2.2) = _; rw [hk]
  have HS := Lib.hid hS
  have HM := Lib.hid hm
  have HH := Lib.hid hH
  clear hl h6 hR hO hm hf hk hH hS
  go_enter Try.func46, Try.ntmps46
  go_wp2_with (at_builtin; go_loud (refine wpl_append_many rfl _ _ 37 rfl Try.underlying37 infoInt rfl (by omega) rfl (Own1.empty w 3) (by simp) (by omega) rfl (HH.out.alloc _) ?_; intro g' c' w3 o3 b3; have O3 := Lib.hid o3; have B3 := Lib.hid b3; clear o3 b3))
  go_ret2
  unfold SrP
  rw [HS.out]
  have o := O3.out
  rw [← HM.out, List.nil_append, rowL_ic] at o
  rw [← HM.out]
  have o' : Own1 w3 w.heap.size 3 g' L.length c' (L.map (Value.int .i64)) := by simpa using o
  refine ⟨some ⟨g', 0, none⟩, c', by simp, .of_row o'.cells, .of o'.lt.1, ?_⟩
  exact (Below.box w _).trans (B3.out.mono (by simp))
theorem tk_has {xs : List Int} {q : Nat} (h : q < xs.length) (v : Int) : (xs.take (q + 1)).contains v = ((xs.take q).contains v || (xs.getD q 0 == v)) := by
  rw [List.take_succ_eq_append_getElem h, List.getD, List.getElem?_eq_getElem h]
  simp only [List.contains_append, Option.getD_some]
  congr 1
  by_cases e : xs[q] = v
  · simp [e]
  · have e2 : ¬ v = xs[q] := fun h => e h.symm
    simp [e, e2]
set_option maxHeartbeats 16000000 in
theorem sr_succ (ps : List DCut) (hC : cAll ps = true) (f : Nat) (IH : SrIH ps f) : SrIH ps (f + 1) := by
  intro g n c h m cH L r p y w hl h6 hR hO hm hf hk hH
  have e0 : ((m : Int) == (n : Int)) = false := by simp; omega
  have hAt := kst_bd hC (by rw [hl]; exact hO)
  rw [hk] at hAt
  obtain ⟨hAt, hy0, hy1⟩ := hAt
  have hy1' : y ≤ 1800 := by have : (L.length : Int) ≤ 6 := by omega
                             simp only at hy1; omega
  have HAT := Lib.hid hAt
  have HC := Lib.hid hC
  have HL := Lib.hid hl
  have HR := Lib.hid hR
  have HO := Lib.hid hO
  have HM := Lib.hid hm
  have HK := Lib.hid hk
  have HF := Lib.hid hf
  have HH := Lib.hid hH
  have HIH := Lib.hid IH
  have HBX := Lib.hid (Below.box w (.cells #[] 3 (0, 0)))
  have hm6 : m ≤ 6 := by omega
  simp only at hy0
  clear hl hR hO hm hf hk hH hAt hy1 IH hC
  go_enter Try.func46, Try.ntmps46
  go_wp2_with fail
  go_loopw [12, 13, 14] (fun b l k wr => ∃ (q : Nat) (aB : Option Addr) (cB : Nat), q ≤ n ∧ k = .int .i64 q ∧ l = .int .i64 (srQ ps f L q).2 ∧ b = .slice aB (srQ ps f L q).1.length cB ∧ SlR wr aB (srQ ps f L q).1.length (ic (srQ ps f L q).1) ∧ Fresh w.heap.size aB (srQ ps f L q).1.length ∧ Below w.heap.size w wr) (fun _ _ k _ => n - (intOf k).toNat)
  case atStart => exact ⟨0, _, 0, Nat.zero_le _, rfl, rfl, rfl, .inl rfl, .zero _, HBX.out⟩
  case round =>
    obtain ⟨q, aB, cB, hq, rfl, rfl, rfl, hs, hfr, hb⟩ := hrel
    rename World => wo
    have HX := Lib.hid hs
    have HFR := Lib.hid hfr
    have HB := Lib.hid hb
    clear hs hfr hb
    by_cases hlt : q < n
    · have HSU := Lib.hid (srQ_succ ps f L q)
      have HP := Lib.hid (HH.out.below HB.out HH.out.lt)
      generalize hsq : srQ ps f L q = Z at *
      have HSQ := Lib.hid hsq
      clear hsq
      have i1 : (q : Int) < (n : Int) := by omega
      have i0 : (0 : Int) ≤ (q : Int) := Int.natCast_nonneg _
      go_wp2_with fail
      go_loopw [15, 16] (fun t i wr => ∃ j : Nat, j ≤ m ∧ i = .int .i64 j ∧ t = .bool ((L.take j).contains (q : Int)) ∧ wr = wo) (fun _ i _ => m - (intOf i).toNat)
      case atStart => exact ⟨0, Nat.zero_le _, rfl, rfl, rfl⟩
      case round =>
        obtain ⟨j, hj, rfl, rfl, rfl⟩ := hrel
        by_cases hlj : j < m
        · have HT := Lib.hid (tk_has (xs := L) (q := j) (by rw [HM.out]; exact hlj) (q : Int))
          have hc := HP.out.cell hlj
          unfold ic at hc
          have j0 : (0 : Int) ≤ (j : Int) := Int.natCast_nonneg _
          have j1 : (j : Int) < (m : Int) := by omega
          generalize (L.take j).contains (q : Int) = B1 at *
          generalize L.getD j 0 = v at *
          cases B1
          · obtain ⟨z, hz⟩ : ∃ z, (v == (q : Int)) = z := ⟨_, rfl⟩
            have HZ : Hid ((L.take (j + 1)).contains (q : Int) = z) := Lib.hid (by rw [HT.out, hz]; rfl)
            go_wp2_with fail
            go_roundw
            case rel => exact ⟨j + 1, by omega, by go_num, by rw [HZ.out], (by first | rfl | trivial)⟩
            case measure => simp [intOf]; omega
          · have HZ : Hid ((L.take (j + 1)).contains (q : Int) = true) := Lib.hid (by rw [HT.out]; rfl)
            go_wp2_with fail
            go_roundw
            case rel => exact ⟨j + 1, by omega, by go_num, by rw [HZ.out], (by first | rfl | trivial)⟩
            case measure => simp [intOf]; omega
        · have j1 : ¬ ((j : Int) < (m : Int)) := by omega
          have HTK : Hid ((L.take j).contains (q : Int) = L.contains (q : Int)) := Lib.hid (by rw [List.take_of_length_le (by rw [HM.out]; omega)])
          rw [HTK.out]
          cases hcq : L.contains (q : Int)
          · have HCQ := Lib.hid hcq
            clear hcq
            have hx := cAll_at HC.out (k := q) (by rw [HL.out]; exact hlt)
            have HXO := Lib.hid hx
            have hgw := goW_bd HAT.out hx
            have HG := Lib.hid (HR.out.below HB.out HR.out.lt)
            obtain ⟨c0, c1, c2⟩ := HG.out.cut hlt
            have HKP : Hid (kst ps (L ++ [(q : Int)]) = ((ps.getD q default).k, goP r p (ps.getD q default), y + goW r p (ps.getD q default))) := Lib.hid (by rw [kst_push, HK.out])
            have HOP := Lib.hid (HO.out.push hlt HCQ.out)
            generalize hxe : ps.getD q default = x at *
            have HXE := Lib.hid hxe
            clear hx hxe
            obtain ⟨gw0, gw1⟩ := hgw
            go_wp2_with fail
            refine (l20Go_any _ _ x _ HAT.out HXO.out).mono ?_
            rintro e w4 ⟨rfl, hb4⟩
            have HB4 := Lib.hid hb4
            have HG4 := Lib.hid (HG.out.below hb4 HG.out.lt)
            have HP4 := Lib.hid (HP.out.below hb4 HP.out.lt)
            have HX4 := Lib.hid (HX.out.below hb4)
            clear hb4 c0 c1 c2 e0
            generalize goW r p x = gw at *
            generalize goP r p x = gp at *
            go_upto_region 15 with (fail)
            go_cut [19, 20] (fun v nn wx => SrC ps f (L ++ [(q : Int)]) w4 v nn wx)
            case first =>
              obtain ⟨c0, c1, c2⟩ := HG4.out.cut hlt
              rw [HXE.out] at c0
              have s1 : IntKind.i64.wrap (y + gw) = y + gw := IntWalk.i64_in _ (by omega)
              have s1' : wrap64 (y + gw) = y + gw := IntWalk.wrap64_in _ (by omega)
              have HB1 : Hid (w4.heap.size ≤ ((w4.alloc (.cells #[] 3 (0, 0))).drew).heap.size) := Lib.hid (by first | (simp; done) | (simp; omega))
              have HB2 : Hid (w4.heap.size ≤ (((w4.alloc (.cells #[] 3 (0, 0))).alloc (.cells #[.int .i64 (q : Int)] 3 (0, 0))).drew).heap.size) := Lib.hid (by first | (simp; done) | (simp; omega))
              have HB3 : Hid ((w4.alloc (.cells #[.int .i64 (q : Int)] 3 (0, 0))).heap.size ≤ (((w4.alloc (.cells #[.int .i64 (q : Int)] 3 (0, 0))).alloc (.cells #[] 3 (0, 0))).drew).heap.size) := Lib.hid (by first | (simp; done) | (simp; omega))
              have HO1 : Hid (Own1 ((w4.alloc (.cells #[] 3 (0, 0))).drew) (w4.heap.size) 3 (w4.heap.size) 0 0 []) := Lib.hid ((Own1.empty w4 3).drew)
              have HR1 : Hid (Row ((w4.alloc (.cells #[] 3 (0, 0))).drew) h m (ic L)) := Lib.hid (Row.drewR (HP4.out.alloc (.cells #[] 3 (0, 0))))
              have HO2 : Hid (Own1 (((w4.alloc (.cells #[] 3 (0, 0))).alloc (.cells #[.int .i64 (q : Int)] 3 (0, 0))).drew) (w4.heap.size) 3 (w4.heap.size) 0 0 []) := Lib.hid (((Own1.empty w4 3).alloc (.cells #[.int .i64 (q : Int)] 3 (0, 0))).drew)
              have HR2 : Hid (Row (((w4.alloc (.cells #[] 3 (0, 0))).alloc (.cells #[.int .i64 (q : Int)] 3 (0, 0))).drew) h m (ic L)) := Lib.hid (Row.drewR ((HP4.out.alloc (.cells #[] 3 (0, 0))).alloc (.cells #[.int .i64 (q : Int)] 3 (0, 0))))
              have HO3 : Hid (Own1 (((w4.alloc (.cells #[.int .i64 (q : Int)] 3 (0, 0))).alloc (.cells #[] 3 (0, 0))).drew) ((w4.alloc (.cells #[.int .i64 (q : Int)] 3 (0, 0))).heap.size) 3 ((w4.alloc (.cells #[.int .i64 (q : Int)] 3 (0, 0))).heap.size) 0 0 []) := Lib.hid ((Own1.empty (w4.alloc (.cells #[.int .i64 (q : Int)] 3 (0, 0))) 3).drew)
              have HR3 : Hid (Row (((w4.alloc (.cells #[.int .i64 (q : Int)] 3 (0, 0))).alloc (.cells #[] 3 (0, 0))).drew) h m (ic L)) := Lib.hid (Row.drewR ((HP4.out.alloc (.cells #[.int .i64 (q : Int)] 3 (0, 0))).alloc (.cells #[] 3 (0, 0))))
              have hc0 := c0
              have E1 : ((w4.alloc (.cells #[] 3 (0, 0))).drew).cell? ⟨g, q * 3, none⟩ = some (.int .i64 x.k) := cell_alloc c0
              have E2 : (((w4.alloc (.cells #[] 3 (0, 0))).alloc (.cells #[.int .i64 (q : Int)] 3 (0, 0))).drew).cell? ⟨g, q * 3, none⟩ = some (.int .i64 x.k) := cell_alloc (cell_alloc c0)
              have E3 : ((w4.alloc (.cells #[.int .i64 (q : Int)] 3 (0, 0))).drew).cell? ⟨g, q * 3, none⟩ = some (.int .i64 x.k) := cell_alloc c0
              have E4 : (((w4.alloc (.cells #[.int .i64 (q : Int)] 3 (0, 0))).alloc (.cells #[] 3 (0, 0))).drew).cell? ⟨g, q * 3, none⟩ = some (.int .i64 x.k) := cell_alloc (cell_alloc c0)
              clear c1 c2
              go_region_held3 (fun w' => w'.cell? ⟨g, q * 3, none⟩ = some (.int .i64 x.k)) (first | exact d0 | exact c0 | exact E1 | exact E2 | exact E3 | exact E4 | exact cell_alloc d0 | (go_keep; done)) (first | (refine step_append_many (cx := cH) rfl (.tmp 65) (.tmp 66) 37 rfl Try.underlying37 infoInt rfl (by omega) (by simp [Act.eval, Act.put]) HO1.out HB1.out (by omega) (by simp [Act.eval, Act.put]) HR1.out ?_; intro g' c' w5 o5 b5; have hg5 := o5.lt; have O5 := Lib.hid (own_weak (B' := w4.heap.size) o5 (by first | exact Nat.le_refl _ | (simp; done) | (simp; omega))); have BW5 : Hid (Below w4.heap.size w4 w5) := Lib.hid ((Below.box w4 _).drew.trans (b5.toBelow (by first | exact Nat.le_refl _ | (simp; done) | (simp; omega)) (by first | (simp; done) | (simp; omega)))); skip; have HG5 := Lib.hid (HG4.out.below BW5.out HG4.out.lt); obtain ⟨d0, _, _⟩ := HG5.out.cut hlt; rw [HXE.out] at d0; clear o5 b5 hg5) | (refine step_append_many (cx := cH) rfl (.tmp 65) (.tmp 66) 37 rfl Try.underlying37 infoInt rfl (by omega) (by simp [Act.eval, Act.put]) HO2.out HB2.out (by omega) (by simp [Act.eval, Act.put]) HR2.out ?_; intro g' c' w5 o5 b5; have hg5 := o5.lt; have O5 := Lib.hid (own_weak (B' := w4.heap.size) o5 (by first | exact Nat.le_refl _ | (simp; done) | (simp; omega))); have BW5 : Hid (Below w4.heap.size w4 w5) := Lib.hid (((Below.box w4 _).alloc (by simp) _).drew.trans (b5.toBelow (by first | exact Nat.le_refl _ | (simp; done) | (simp; omega)) (by first | (simp; done) | (simp; omega)))); have HQ5 : Hid (w5.cell? ⟨w4.heap.size + 1, 0, none⟩ = some (.int .i64 (q : Int))) := Lib.hid (cell_only b5 (by simp) (new_cell2 (by simp))); have HG5 := Lib.hid (HG4.out.below BW5.out HG4.out.lt); obtain ⟨d0, _, _⟩ := HG5.out.cut hlt; rw [HXE.out] at d0; clear o5 b5 hg5) | (refine step_append_many (cx := cH) rfl (.tmp 65) (.tmp 66) 37 rfl Try.underlying37 infoInt rfl (by omega) (by simp [Act.eval, Act.put]) HO3.out HB3.out (by omega) (by simp [Act.eval, Act.put]) HR3.out ?_; intro g' c' w5 o5 b5; have hg5 := o5.lt; have O5 := Lib.hid (own_weak (B' := w4.heap.size) o5 (by first | exact Nat.le_refl _ | (simp; done) | (simp; omega))); have BW5 : Hid (Below w4.heap.size w4 w5) := Lib.hid (((Below.box w4 _).alloc (by simp) _).drew.trans (b5.toBelow (by first | exact Nat.le_refl _ | (simp; done) | (simp; omega)) (by first | (simp; done) | (simp; omega)))); have HQ5 : Hid (w5.cell? ⟨w4.heap.size, 0, none⟩ = some (.int .i64 (q : Int))) := Lib.hid (cell_only b5 (by simp) (new_cell1 (by simp))); have HG5 := Lib.hid (HG4.out.below BW5.out HG4.out.lt); obtain ⟨d0, _, _⟩ := HG5.out.cut hlt; rw [HXE.out] at d0; clear o5 b5 hg5) | (refine step_append_a rfl (.tmp 67) (.tmp 69) 37 rfl Try.underlying37 infoInt rfl (by omega) (by simp [Act.eval, Act.put]) (OwnA.of1 O5.out) (by have := BW5.out.size; first | (simp; done) | (simp; omega)) (by omega) (by simp [Act.eval, Act.put]) HQ5.out rfl ?_; intro g6 c6 w6 o6 b6; have O6 := Lib.hid o6; have BW6 : Hid (Below w4.heap.size w4 w6) := Lib.hid (BW5.out.trans (by first | exact b6 | exact ((Below.box w5 _).mono BW5.out.size).trans b6)); have HG6 := Lib.hid (HG4.out.below BW6.out HG4.out.lt); obtain ⟨d0, _, _⟩ := HG6.out.cut hlt; rw [HXE.out] at d0; clear o6 b6) | (refine step_append_a rfl (.tmp 67) (.tmp 69) 37 rfl Try.underlying37 infoInt rfl (by omega) (by simp [Act.eval, Act.put]) (OwnA.of1 (O5.out.alloc _)) (by have := BW5.out.size; first | (simp; done) | (simp; omega)) (by omega) (by simp [Act.eval, Act.put]) (new_cell rfl) rfl ?_; intro g6 c6 w6 o6 b6; have O6 := Lib.hid o6; have BW6 : Hid (Below w4.heap.size w4 w6) := Lib.hid (BW5.out.trans (by first | exact b6 | exact ((Below.box w5 _).mono BW5.out.size).trans b6)); have HG6 := Lib.hid (HG4.out.below BW6.out HG4.out.lt); obtain ⟨d0, _, _⟩ := HG6.out.cut hlt; rw [HXE.out] at d0; clear o6 b6) | (go_at_call 46; refine (HIH.out g n c g6 (m + 1) c6 (L ++ [(q : Int)]) x.k gp (y + gw) _ HL.out h6 HG6.out HOP.out (by rw [List.length_append, HM.out]; rfl) (by have := HF.out; omega) HKP.out (row_push O6.out HM.out)).mono ?_; rintro e w7 ⟨aY, cY, rfl, hs7, hf7, hb7⟩; have d0 := (hb7.cell (World.block_lt_of_cell? _ _ d0)).trans d0; have HC7 : Hid (SrC ps f (L ++ [(q : Int)]) w4 (.slice aY (srch ps f (L ++ [(q : Int)])).1.length cY) (.int .i64 (srch ps f (L ++ [(q : Int)])).2) w7) := Lib.hid ⟨aY, cY, rfl, rfl, hs7, fresh_weak hf7 BW6.out.size, BW6.out.trans (hb7.mono BW6.out.size)⟩; clear hs7 hf7 hb7))
              all_goals
                go_wp2_with fail
                go_meet
                case rel => exact HC7.out
            case rest =>
              obtain ⟨aY, cY, rfl, rfl, hsY, hfY, hbY⟩ := hcut
              rename World => w7
              have HB7 := Lib.hid (HB.out.trans ((HB4.out.trans (hbY.mono HB4.out.size)).mono HB.out.size))
              have HX7 := Lib.hid (HX4.out.below hbY)
              have HSY := Lib.hid hsY
              have HFY := Lib.hid (fresh_weak hfY (Nat.le_trans HB.out.size HB4.out.size))
              clear hsY hfY hbY
              have HN0 : Hid (srQ ps f L (q + 1) = upd Z (srch ps f (L ++ [(q : Int)]))) := Lib.hid (by rw [HSU.out, HCQ.out]; rfl)
              generalize srch ps f (L ++ [(q : Int)]) = Y at *
              by_cases hz : Z.2 < 0
              · have HN : Hid (srQ ps f L (q + 1) = Y) := Lib.hid (by rw [HN0.out]; exact if_pos (.inl hz))
                have t1 : decide (Z.2 < 0) = true := decide_eq_true hz
                clear hz
                go_wp2_with fail
                go_roundw
                case rel => (first | exact ⟨q + 1, aY, cY, by omega, by go_num, by rw [HN.out], by rw [HN.out], by rw [HN.out]; exact HSY.out, by rw [HN.out]; exact HFY.out, HB7.out⟩ | ((repeat apply Exists.intro); exact ⟨⟨q + 1, aY, cY, by omega, by go_num, by rw [HN.out], by rw [HN.out], by rw [HN.out]; exact HSY.out, by rw [HN.out]; exact HFY.out, HB7.out⟩, rfl⟩))
                case measure => simp [intOf]; omega
              · have t1 : decide (Z.2 < 0) = false := decide_eq_false hz
                by_cases hlt2 : Y.2 < Z.2
                · have HN : Hid (srQ ps f L (q + 1) = Y) := Lib.hid (by rw [HN0.out]; exact if_pos (.inr hlt2))
                  have t2 : decide (Y.2 < Z.2) = true := decide_eq_true hlt2
                  clear hz hlt2
                  go_wp2_with fail
                  go_roundw
                  case rel => (first | exact ⟨q + 1, aY, cY, by omega, by go_num, by rw [HN.out], by rw [HN.out], by rw [HN.out]; exact HSY.out, by rw [HN.out]; exact HFY.out, HB7.out⟩ | ((repeat apply Exists.intro); exact ⟨⟨q + 1, aY, cY, by omega, by go_num, by rw [HN.out], by rw [HN.out], by rw [HN.out]; exact HSY.out, by rw [HN.out]; exact HFY.out, HB7.out⟩, rfl⟩))
                  case measure => simp [intOf]; omega
                · have HN : Hid (srQ ps f L (q + 1) = Z) := Lib.hid (by rw [HN0.out]; exact if_neg (fun h => h.elim hz hlt2))
                  have t2 : decide (Y.2 < Z.2) = false := decide_eq_false hlt2
                  clear hz hlt2
                  go_wp2_with fail
                  go_roundw
                  case rel => (first | exact ⟨q + 1, aB, cB, by omega, by go_num, by rw [HN.out], by rw [HN.out], by rw [HN.out]; exact HX7.out, by rw [HN.out]; exact HFR.out, HB7.out⟩ | ((repeat apply Exists.intro); exact ⟨⟨q + 1, aB, cB, by omega, by go_num, by rw [HN.out], by rw [HN.out], by rw [HN.out]; exact HX7.out, by rw [HN.out]; exact HFR.out, HB7.out⟩, rfl⟩))
                  case measure => simp [intOf]; omega
          · have HN : Hid (srQ ps f L (q + 1) = Z) := Lib.hid (by rw [HSU.out, hcq]; rfl)
            clear hcq
            go_wp2_with fail
            go_roundw
            case rel => exact ⟨q + 1, aB, cB, by omega, by go_num, by rw [HN.out], by rw [HN.out], by rw [HN.out]; exact HX.out, by rw [HN.out]; exact HFR.out, HB.out⟩
            case measure => simp [intOf]; omega
    · have hqn : q = n := by omega
      have i1 : ¬ ((q : Int) < (n : Int)) := by omega
      have HE : Hid (srch ps (f + 1) L = srQ ps f L q) := Lib.hid (by rw [srch_succ, HL.out, hqn])
      generalize hsq : srQ ps f L q = Z at *
      clear hsq
      go_wp2_with fail
      go_ret2
      unfold SrP
      rw [HE.out]
      exact ⟨aB, cB, rfl, HX.out, HFR.out, HB.out⟩
end Go.Proofs.Ytlplfpoggifadaa
