/-
  The cursor that the laws draw with: contracts of l01New, l01Byte, l01Below and l01Once.
  By an AI agent.
-/
import Derived.Test.YtjkcmjnejbobeaaOwn
import Derived.Test.YtjkcmjnejbobeaaReg
import Derived.Deep.DeepCutAuto
namespace Go.Proofs.Ytjkcmjnejbobeaa
open Go.ChangeShapes Go.WideShapes Go.ChangeAt Go.RowKit
set_option maxRecDepth 100000
set_option linter.unusedVariables false

/-- The bytes of a draw. -/
def Bytes (w : World) (a : Option Addr) (l : Nat) : Prop := 0 < l → ∃ b off, a = some ⟨b, off, none⟩ ∧ ∀ i, i < l → ∃ v : Int, (0 ≤ v ∧ v ≤ 255) ∧ w.cell? ⟨b, off + i, none⟩ = some (.int .u8 v)
theorem Bytes.below {w w' : World} {a : Option Addr} {l : Nat} (h : Bytes w a l) (hb : Below w.heap.size w w') : Bytes w' a l := by
  intro h0
  obtain ⟨b, off, ha, hc⟩ := h h0
  refine ⟨b, off, ha, fun i hi => ?_⟩
  obtain ⟨v, hv, hcell⟩ := hc i hi
  exact ⟨v, hv, (hb.cell (p := ⟨b, off + i, none⟩) (World.block_lt_of_cell? _ _ hcell)).trans hcell⟩
theorem Bytes.of {w : World} {a : Option Addr} {len cap : Nat} {zs : List Int} (h : IsRow .u8 w a len cap zs) : len ≤ maxLen ∧ Bytes w a len := by
  obtain ⟨hm, hc⟩ := h.cells
  refine ⟨hm, fun h0 => ?_⟩
  obtain ⟨b, off, ha, hcc⟩ := hc h0
  refine ⟨b, off, ha, fun i hi => ⟨_, ?_, hcc i hi⟩⟩
  rcases h with ⟨_, h1, _⟩ | ⟨x, _, hl, hm', hz, _, hw⟩
  · omega
  · have := hw (zs.getD i 0) (by rw [getD_at _ _ (by omega)]; exact List.getElem_mem (by omega))
    unfold Lit.wf at this
    simp only [Bool.and_eq_true, decide_eq_true_eq] at this
    have h1 := this.1
    have h2 := this.2
    rw [show IntKind.u8.min = 0 from rfl] at h1
    rw [show IntKind.u8.max = 255 from rfl] at h2
    exact ⟨h1, h2⟩
def curC (a : Option Addr) (l c i : Nat) (h : Int) (j : Nat) : Value := if j = 0 then .slice a l c else if j = 1 then .int .i64 (i : Int) else .int .i64 h
/-- A cursor at block b. -/
def Cur (w : World) (b : Nat) (a : Option Addr) (l c : Nat) : Prop := ∃ (i : Nat) (h : Int), i ≤ l ∧ Row w b 3 (curC a l c i h)
theorem Cur.below {w w' : World} {b l c : Nat} {a : Option Addr} (h : Cur w b a l c) (hb : Below w.heap.size w w') : Cur w' b a l c := by
  obtain ⟨i, x, hi, hr⟩ := h
  exact ⟨i, x, hi, hr.below hb hr.lt⟩
theorem Cur.lt {w : World} {b l c : Nat} {a : Option Addr} (h : Cur w b a l c) : b < w.heap.size := by obtain ⟨i, x, hi, hr⟩ := h; exact hr.lt
theorem and255 (z : Int) : 0 ≤ bits .and .i64 z 255 ∧ bits .and .i64 z 255 ≤ 255 := by
  have e : bits .and .i64 z 255 = IntKind.i64.wrap ((BitVec.ofInt 64 z &&& BitVec.ofInt 64 ((255 : Nat) : Int)).toNat : Int) := rfl
  have e2 : (BitVec.ofInt 64 ((255 : Nat) : Int)).toNat = 255 := by decide
  have h : (BitVec.ofInt 64 z &&& BitVec.ofInt 64 ((255 : Nat) : Int)).toNat ≤ 255 := by
    rw [BitVec.toNat_and, e2]; exact Nat.and_le_right
  rw [e]
  generalize (BitVec.ofInt 64 z &&& BitVec.ofInt 64 ((255 : Nat) : Int)).toNat = k at *
  rw [IntWalk.i64_in _ (by omega)]
  omega
theorem OnlyB.heapEq {g : Nat} {w a b : World} (h : OnlyB g w a) (h1 : b.os = a.os) (h2 : b.tape = a.tape) (h3 : b.output = a.output) (h4 : b.heap = a.heap) : OnlyB g w b :=
  ⟨h1.trans h.os, h2.trans h.tape, h3.trans h.output, by rw [h4]; exact h.size, fun i hi hn => by rw [h4]; exact h.block i hi hn⟩
def ByteP (b : Nat) (a : Option Addr) (l c : Nat) (w : World) (e : Ending) (w' : World) : Prop := ∃ v : Int, e = .returned (.int .i64 v) ∧ (0 ≤ v ∧ v ≤ 255) ∧ Cur w' b a l c ∧ OnlyB b w w'
set_option maxHeartbeats 4000000 in
theorem byte_any (b : Nat) (a : Option Addr) (l c : Nat) (w : World) (hm : l ≤ 1048576) (hY : Bytes w a l) (hne : 0 < l → ∀ x off, a = some ⟨x, off, none⟩ → x ≠ b) (hC : Cur w b a l c) :
    Calls Try.prog 60 #[.pointer (some ⟨b, 0, none⟩)] w (ByteP b a l c w) := by
  obtain ⟨i, h, hi, hr⟩ := hC
  have HR := Lib.hid hr
  have c0 := hr.cell (i := 0) (by omega)
  have c1 := hr.cell (i := 1) (by omega)
  have c2 := hr.cell (i := 2) (by omega)
  have f1 := hr.frozen 1
  have f2 := hr.frozen 2
  clear hr
  have c0' : w.cell? ⟨b, 0, none⟩ = some (.slice a l c) := c0
  have c1' : w.cell? ⟨b, 1, none⟩ = some (.int .i64 (i : Int)) := c1
  have c2' : w.cell? ⟨b, 2, none⟩ = some (.int .i64 h) := c2
  clear c0 c1 c2
  have HS2 : Hid (∀ x, Row (w.setCell ⟨b, 2, none⟩ (.int .i64 x)) b 3 (curC a l c i x)) := Lib.hid (fun x => (HR.out.set 2 _).congr fun j hj => by
    unfold curC
    by_cases e : j = 2
    · subst e; simp
    · rw [if_neg e]
      have : j = 0 ∨ j = 1 := by omega
      rcases this with rfl | rfl <;> simp)
  have HO2 : Hid (∀ x, OnlyB b w (w.setCell ⟨b, 2, none⟩ (.int .i64 x))) := Lib.hid (fun x => OnlyB.setCell w b 2 _)
  go_enter Try.func60, Try.ntmps60
  by_cases hil : i < l
  · obtain ⟨x, off, rfl, hcc⟩ := hY (by omega)
    obtain ⟨v, hv, cv⟩ := hcc i hil
    have hxb := hne (by omega) x off rfl
    have HS1 : Hid (∀ y, Row ((w.setCell ⟨b, 2, none⟩ (.int .i64 y)).setCell ⟨b, 1, none⟩ (.int .i64 ((i : Int) + 1))) b 3 (curC (some ⟨x, off, none⟩) l c (i + 1) y)) := Lib.hid (fun y => ((HS2.out y).set 1 _).congr fun j hj => by
      unfold curC
      by_cases e : j = 1
      · subst e; simp
      · rw [if_neg e]
        have : j = 0 ∨ j = 2 := by omega
        rcases this with rfl | rfl <;> simp)
    have HO1 : Hid (∀ y u, OnlyB b w ((w.setCell ⟨b, 2, none⟩ (.int .i64 y)).setCell ⟨b, 1, none⟩ u)) := Lib.hid (fun y u => (HO2.out y).set 1 _)
    clear hne hcc hY
    have i0 : (0 : Int) ≤ (i : Int) := Int.natCast_nonneg _
    have i1 : (i : Int) < (l : Int) := by omega
    go_upto_region 2 with (fail)
    generalize wrap64 (wrap64 (h * 6364136223846793005) + 1442695040888963407) = X at *
    have HR1 := Lib.hid (HS2.out X)
    have HO := Lib.hid (HO2.out X)
    have HR2 := Lib.hid (HS1.out X)
    have HOO := Lib.hid (HO1.out X)
    have cv1 : (w.setCell ⟨b, 2, none⟩ (.int .i64 X)).cell? ⟨x, off + i, none⟩ = some (.int .u8 v) := (World.cell?_of_block (w := w) (a := ⟨x, off + i, none⟩) (Below.heap_setCell w ⟨b, 2, none⟩ _ x hxb)).trans cv
    have f1b := HR1.out.frozen 1
    clear HS2 HS1 HO1 HO2 cv f1 f2 c0' c1' c2'
    generalize w.setCell ⟨b, 2, none⟩ (.int .i64 X) = w1 at *
    have c0 : w1.cell? ⟨b, 0, none⟩ = some (.slice (some ⟨x, off, none⟩) l c) := HR1.out.cell (i := 0) (by omega)
    have c1 : w1.cell? ⟨b, 1, none⟩ = some (.int .i64 (i : Int)) := HR1.out.cell (i := 1) (by omega)
    have c2 : w1.cell? ⟨b, 2, none⟩ = some (.int .i64 X) := HR1.out.cell (i := 2) (by omega)
    have t1 : decide ((i : Int) < (l : Int)) = true := decide_eq_true i1
    go_quiet (fail)
    go_wp2
    go_quiet (fail)
    go_wp2
    go_quiet (fail)
    go_wp2
    go_ret
    exact ⟨_, rfl, and255 _, ⟨i + 1, X, by omega, HR2.out.of_heap rfl⟩, (HOO.out _).heapEq rfl rfl rfl rfl⟩
  · have i1 : ¬ (i : Int) < (l : Int) := by omega
    have t1 : decide ((i : Int) < (l : Int)) = false := decide_eq_false i1
    clear hne hY
    go_upto_region 2 with (fail)
    generalize wrap64 (wrap64 (h * 6364136223846793005) + 1442695040888963407) = X at *
    have HR1 := Lib.hid (HS2.out X)
    have HO := Lib.hid (HO2.out X)
    clear HS2 HO2 f1 f2 c0' c1' c2'
    generalize w.setCell ⟨b, 2, none⟩ (.int .i64 X) = w1 at *
    have c0 : w1.cell? ⟨b, 0, none⟩ = some (.slice a l c) := HR1.out.cell (i := 0) (by omega)
    have c1 : w1.cell? ⟨b, 1, none⟩ = some (.int .i64 (i : Int)) := HR1.out.cell (i := 1) (by omega)
    have c2 : w1.cell? ⟨b, 2, none⟩ = some (.int .i64 X) := HR1.out.cell (i := 2) (by omega)
    go_quiet (fail)
    go_wp2
    go_quiet (fail)
    go_wp2
    go_ret
    exact ⟨_, rfl, and255 _, ⟨i, X, by omega, HR1.out.of_heap rfl⟩, HO.out.heapEq rfl rfl rfl rfl⟩
end Go.Proofs.Ytjkcmjnejbobeaa
