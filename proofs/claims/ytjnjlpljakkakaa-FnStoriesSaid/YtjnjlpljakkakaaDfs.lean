/-
  Contracts of the program's search in depth: reached and pagesFrom.
  By an AI agent.
-/
import Derived.Test.YtjnjlpljakkakaaGraph
import Derived.Test.YtjnjlpljakkakaaTwo
namespace Go.Proofs.Ytjnjlpljakkakaa
open Go.ChangeShapes Go.WideShapes Go.ChangeAt Go.RowKit Go.Joins Go.Deep
set_option maxRecDepth 100000
set_option linter.unusedVariables false

/-- Cells that hold bools. -/
def bc (S : Nat → Bool) (i : Nat) : Value := .bool (S i)
theorem bc_set {w : World} {g n k : Nat} {v : Bool} {S : Nat → Bool} (h : Row w g n (bc S)) : Row (w.setCell ⟨g, k, none⟩ (.bool v)) g n (bc (fun i => if i = k then v else S i)) := by
  refine (h.set _ _).congr fun q _ => ?_
  unfold bc
  by_cases e : q = k
  · subst e; simp
  · simp [e]
def DfsP (n : Nat) (L : Rows) (p : Nat) (S : Nat → Bool) (gs : Nat) (w : World) (e : Ending) (w' : World) : Prop :=
  ∃ T, e = .returned (.tuple #[]) ∧ Dfs L p S T ∧ Row w' gs n (bc T) ∧ OnlyB gs w w'
set_option maxHeartbeats 2000000 in
theorem reached_step (a : Option Addr) (n c : Nat) (L : Rows) (W0 : World) (gs : Nat) (hs : storyOk n L) (hR0 : RSt W0 a n L) (hg : W0.heap.size ≤ gs) (S : Nat → Bool)
    (ih : ∀ (T : Nat → Bool) (p cs : Nat) (w : World), unseen n T < unseen n S → p < n → Below W0.heap.size W0 w → Row w gs n (bc T) → Calls Try.prog 58 #[.agg #[.slice a n c], .int .i64 p, .slice (some ⟨gs, 0, none⟩) n cs] w (DfsP n L p T gs w))
    (p cs : Nat) (w : World) (hp : p < n) (hB : Below W0.heap.size W0 w) (hr : Row w gs n (bc S)) :
    Calls Try.prog 58 #[.agg #[.slice a n c], .int .i64 p, .slice (some ⟨gs, 0, none⟩) n cs] w (DfsP n L p S gs w) := by
  have HI := Lib.hid ih
  have HS := Lib.hid hs
  have hb0 := Below.box w (.cells #[.slice a n c] 27 (0, 0))
  have HB0 := Lib.hid hb0
  have HB := Lib.hid hB
  have HR0 := Lib.hid hR0
  have hlt := hr.lt
  have HRW := Lib.hid hr
  have n16 := hs.1.2
  clear ih hs hb0 hB hR0 hr
  have c3 := HRW.out.cell hp
  have f3 := HRW.out.frozen p
  unfold bc at c3
  have i0 : (0 : Int) ≤ (p : Int) := Int.natCast_nonneg _
  have i1 : (p : Int) < (n : Int) := by omega
  cases hSp : S p
  · rw [hSp] at c3
    have HSP := Lib.hid hSp
    clear hSp
    obtain ⟨g, α, C, rfl, lg, c1, hC, s1⟩ := HR0.out.at hp
    have hlen : lenN L p ≤ 4 := (HS.out.2 p hp).1
    have C1 := Lib.hid c1
    have S1 := Lib.hid s1
    have hgs : g ≠ gs := by omega
    have FB : Hid (∀ wr, OnlyB gs w wr → Below W0.heap.size W0 wr) := Lib.hid (fun wr h => HB.out.trans (h.toBelow hg HB.out.size))
    have HU : Hid (unseen n (fun i => if i = p then true else S i) < unseen n S) := Lib.hid (unseen_lt (fun i h => by show (if i = p then true else S i) = true; split; rfl; exact h) hp HSP.out (by simp))
    have HO1 : Hid (OnlyB gs w ((w.setCell ⟨gs, p, none⟩ (.bool true)).alloc (.cells #[.slice (some ⟨g, 0, none⟩) n c] 27 (0, 0)))) := Lib.hid ((OnlyB.setCell w gs p _).below (Below.box _ _))
    have HR1 : Hid (Row ((w.setCell ⟨gs, p, none⟩ (.bool true)).alloc (.cells #[.slice (some ⟨g, 0, none⟩) n c] 27 (0, 0))) gs n (bc (fun i => if i = p then true else S i))) := Lib.hid ((bc_set HRW.out).below (Below.box _ _) (bc_set HRW.out).lt)
    have HC1 : Hid (((w.setCell ⟨gs, p, none⟩ (.bool true)).alloc (.cells #[.slice (some ⟨g, 0, none⟩) n c] 27 (0, 0))).cell? ⟨w.heap.size, 0, none⟩ = some (.slice (some ⟨g, 0, none⟩) n c)) := Lib.hid (new_cell (by simp))
    go_enter Try.func58, Try.ntmps58
    have c1w := ((FB.out _ HO1.out).cell (p := ⟨g, p, none⟩) lg).trans c1
    clear c1
    go_wp2
    clear c1w
    generalize (w.setCell ⟨gs, p, none⟩ (.bool true)).alloc (.cells #[.slice (some ⟨g, 0, none⟩) n c] 27 (0, 0)) = W1 at *
    generalize hm : lenN L p = m at *
    have HM := Lib.hid hm
    clear hm
    go_loopw [21] (fun i wr => ∃ (q : Nat) (T : Nat → Bool), q ≤ m ∧ i = .int .i64 q ∧ DfsIn L p q S (fun i => if i = p then true else S i) T ∧ Row wr gs n (bc T) ∧ OnlyB gs w wr ∧ wr.cell? ⟨w.heap.size, 0, none⟩ = some (.slice (some ⟨g, 0, none⟩) n c)) (fun i _ => m - (intOf i).toNat)
    case atStart => exact ⟨0, _, Nat.zero_le _, rfl, DfsIn.start, HR1.out, HO1.out, HC1.out⟩
    case round =>
      obtain ⟨q, T, hq, rfl, hd, hr, ho, d0⟩ := hrel
      have HD := Lib.hid hd
      have HRT := Lib.hid hr
      have HO := Lib.hid ho
      clear hd hr ho
      by_cases hlq : q < m
      · have hFB := FB.out _ HO.out
        obtain ⟨g3, rfl, hr3⟩ := (S1.out.below hFB).row (by omega)
        have c2 := hr3.cell hlq
        unfold ic at c2
        have hv := ((HS.out.2 p hp).2 q (by rw [show (rowN L p).length = m from HM.out]; exact hlq)).1
        obtain ⟨x, hx⟩ : ∃ x : Nat, (rowN L p).getD q 0 = (x : Int) := ⟨((rowN L p).getD q 0).toNat, by omega⟩
        rw [hx] at c2 hv
        have HX := Lib.hid hx
        clear hx hr3
        have hxn : x < n := by omega
        have HUT : Hid (unseen n T < unseen n S) := Lib.hid (Nat.lt_of_le_of_lt (unseen_mono HD.out.sub) HU.out)
        have HFB := Lib.hid hFB
        clear hFB
        go_wp2_with (go_at_call 58; refine (HI.out T x _ _ HUT.out hxn HFB.out HRT.out).mono ?_; rintro e w2 ⟨T', rfl, hd, hr, ho⟩; have HD2 := Lib.hid hd; have HRT2 := Lib.hid hr; have HO2 := Lib.hid (HO.out.then ho); have HD0 := Lib.hid ((World.cell?_of_block (w := wr) (a := ⟨w.heap.size, 0, none⟩) (ho.block w.heap.size (World.block_lt_of_cell? _ _ d0) (by omega))).trans d0); clear hd hr ho)
        go_roundw
        case rel => exact ⟨q + 1, T', by omega, by go_num, HD.out.next HX.out (by rw [HM.out]; exact hlq) (fun i h => by show (if i = p then true else S i) = true; split; rfl; exact h) HD2.out, HRT2.out, HO2.out, HD0.out⟩
        case measure => simp [intOf]; omega
      · have hq' : q = m := by omega
        subst hq'
        have HDD : Hid (Dfs L p S T) := Lib.hid (DfsIn.done (by rw [HM.out]; exact HD.out))
        go_wp2
        go_end0
        exact ⟨T, rfl, HDD.out, HRT.out, HO.out⟩
  · rw [hSp] at c3
    have HSP := Lib.hid hSp
    clear hSp
    go_enter Try.func58, Try.ntmps58
    go_wp2
    refine bodyPost_ret (results_none rfl _ _ _) rfl ?_
    refine ⟨S, rfl, ⟨fun _ h => h, HSP.out, fun x h1 h2 => ?_, fun x h1 h2 => ?_⟩, HRW.out.below HB0.out hlt, (OnlyB.refl gs w).below HB0.out⟩
    · rw [h1] at h2; cases h2
    · rw [h1] at h2; cases h2
theorem reached_any (a : Option Addr) (n c : Nat) (L : Rows) (W0 : World) (gs : Nat) (hs : storyOk n L) (hR0 : RSt W0 a n L) (hg : W0.heap.size ≤ gs) (m : Nat) : ∀ (S : Nat → Bool) (p cs : Nat) (w : World), unseen n S < m → p < n → Below W0.heap.size W0 w → Row w gs n (bc S) →
    Calls Try.prog 58 #[.agg #[.slice a n c], .int .i64 p, .slice (some ⟨gs, 0, none⟩) n cs] w (DfsP n L p S gs w) := by
  induction m with
  | zero => intro S p cs w h; omega
  | succ m ih => intro S p cs w h hp hB hr; exact reached_step a n c L W0 gs hs hR0 hg S (fun T p cs w hT hp hB hr => ih T p cs w (by omega) hp hB hr) p cs w hp hB hr
theorem infoBool : (Try.prog.info? 4).map (fun i => (i.zero, i.size, i.bytes)) = some (some (.bool false), 1, 1) := by kernel_rfl
/-- Which pages are met from page p. -/
def FromP (n : Nat) (L : Rows) (p : Nat) (w : World) (e : Ending) (w' : World) : Prop :=
  ∃ (g : Nat) (T : Nat → Bool), e = .returned (.slice (some ⟨g, 0, none⟩) n n) ∧ Row w' g n (bc T) ∧ (∀ x, T x = true ↔ (x = p ∨ Path L p x)) ∧ w.heap.size ≤ g ∧ Below w.heap.size w w'
set_option maxHeartbeats 1000000 in
theorem pagesFrom_any (a : Option Addr) (n c : Nat) (L : Rows) (p : Nat) (w : World) (hs : storyOk n L) (hp : p < n) (hR : RSt w a n L) :
    Calls Try.prog 42 #[.agg #[.slice a n c], .int .i64 p] w (FromP n L p w) := by
  obtain ⟨i0, hi0, hz0, hz1, hz2⟩ := info_parts infoBool
  have hb0 := Below.box w (.cells #[.slice a n c] 27 (0, 0))
  have HB0 := Lib.hid hb0
  have HS := Lib.hid hs
  have HR := Lib.hid hR
  have n16 := hs.1.2
  have hc0 : (w.alloc (.cells #[.slice a n c] 27 (0, 0))).cell? ⟨w.heap.size, 0, none⟩ = some (.slice a n c) := new_cell rfl
  have HC0 := Lib.hid hc0
  have hsz : (w.alloc (.cells #[.slice a n c] 27 (0, 0))).heap.size = w.heap.size + 1 := by simp
  clear hs hR hb0 hc0
  go_enter Try.func42, Try.ntmps42
  go_wp2_with (at_make; refine wpList_make_full _ rfl _ _ 47 rfl (w.alloc (.cells #[.slice a n c] 27 (0, 0))).heap.size 4 i0 _ 1 Try.underlying47 hi0 hz0 hz1 .i64 .i64 n n n rfl rfl rfl rfl (by rw [hz2]; omega) (by unfold maxLen; omega) (Nat.le_refl _) ?_; intro w1 own1 gr1; have B0 : Below (w.alloc (.cells #[.slice a n c] 27 (0, 0))).heap.size (w.alloc (.cells #[.slice a n c] 27 (0, 0))) w1 := (Below.refl _ _).grown gr1 (Nat.le_refl _) (by simp); have hc1 := (B0.cell (p := ⟨w.heap.size, 0, none⟩) (by simp)).trans HC0.out)
  generalize hW : w.alloc (.cells #[.slice a n c] 27 (0, 0)) = W at *
  clear hW
  have R0 : Row w1 (w.heap.size + 1) n (bc (fun _ => false)) := by
    rw [← hsz]
    exact ((Row.of_owns own1).mono (M := n) (by omega)).congr fun j hj => by
      rw [made_at _ _ _ (by omega)]
      simp [Value.cells, Nat.mod_one, bc]
  clear own1 gr1
  have HB1 : Hid (Below w.heap.size w w1) := Lib.hid (HB0.out.trans (B0.mono (by omega)))
  have HR1 := Lib.hid R0
  clear R0 B0
  refine (reached_any a n c L w (w.heap.size + 1) HS.out HR.out (by omega) _ _ p n w1 (Nat.lt_succ_self _) hp HB1.out HR1.out).mono ?_
  rintro e w2 ⟨T, rfl, hd, hr, ho⟩
  have HD := Lib.hid hd
  have HR2 := Lib.hid hr
  have HO := Lib.hid ho
  clear hd hr ho
  go_wp2_with fail
  go_ret
  exact ⟨w.heap.size + 1, T, rfl, HR2.out, HD.out.whole, by omega, HB1.out.trans (HO.out.toBelow (by omega) HB1.out.size)⟩
end Go.Proofs.Ytjnjlpljakkakaa
