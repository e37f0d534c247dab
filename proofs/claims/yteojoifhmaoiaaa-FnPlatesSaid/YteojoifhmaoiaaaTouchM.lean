/-
  A list of lists as a law handles it: what marks keep.
  By an AI agent.
-/
import Derived.Test.YteojoifhmaoiaaaTouchI
namespace Go.Proofs.Yteojoifhmaoiaaa
open Go.ChangeShapes Go.WideShapes Go.ChangeAt Go.RowKit
set_option maxRecDepth 100000
set_option linter.unusedVariables false

def GL (w : World) (lo hi : Nat) (a : Option Addr) (L : Rows) : Prop := L = [] ∨ ∃ g, a = some ⟨g, 0, none⟩ ∧ OSt w lo hi g L.length L
def GM (w : World) (a : Option Addr) (L : Rows) : Prop := L = [] ∨ ∃ g, a = some ⟨g, 0, none⟩ ∧ OMk w g L.length L 1
section
variable {w w' : World} {lo hi lo' hi' g n : Nat} {L : Rows} {a : Option Addr}
theorem OSt.blocks (h : OSt w lo hi g n L) (hb : ∀ b, b < w.heap.size → lo ≤ b → b < hi → w'.heap[b]? = w.heap[b]?) : OSt w' lo hi g n L := by
  obtain ⟨h0, A, h1, h2⟩ := h
  exact ⟨h0, A, h1.of_heap (hb g h1.lt h0.1 h0.2), fun i hi => ⟨(h2 i hi).1, (h2 i hi).2.of_heap (hb _ (h2 i hi).2.lt (h2 i hi).1.1 (h2 i hi).1.2.1)⟩⟩
theorem GL.blocks (h : GL w lo hi a L) (hb : ∀ b, b < w.heap.size → lo ≤ b → b < hi → w'.heap[b]? = w.heap[b]?) : GL w' lo hi a L := by
  rcases h with h | ⟨g, ha, h⟩
  · exact .inl h
  · exact .inr ⟨g, ha, h.blocks hb⟩
theorem GL.below (h : GL w lo hi a L) (hb : Below w.heap.size w w') : GL w' lo hi a L := h.blocks fun b h1 _ _ => hb.block b h1
theorem Marked.other {b N : Nat} (h : Marked (some ⟨b, 0, none⟩) N w w') {x : Nat} (hx : x < w.heap.size) (hn : x ≠ b) : w'.heap[x]? = w.heap[x]? := by
  rcases h with ⟨_, h⟩ | ⟨_, k, hk, h⟩
  · exact h.block x hx
  · simp only [Option.some.injEq, Addr.mk.injEq, and_true] at hk
    exact h.block x hx (by omega)
theorem GL.keepM {b N : Nat} (h : GL w lo hi a L) (m : Marked (some ⟨b, 0, none⟩) N w w') (hb : b < lo ∨ hi ≤ b) : GL w' lo hi a L := h.blocks fun x h1 h2 h3 => m.other h1 (by omega)
theorem GL.keepR (h : GL w lo hi a L) (r : Reg lo' hi' w w') (hb : hi ≤ lo') : GL w' lo hi a L := h.blocks fun x h1 h2 h3 => r.block x h1 (.inl (by omega))
theorem GL.rst (h : GL w lo hi a L) : RSt w a L.length L := by
  rcases h with h | ⟨g, rfl, h⟩
  · subst h
    exact ⟨fun _ => none, fun _ => 0, SlR.zero _ _ _, fun i hi => absurd hi (Nat.not_lt_zero i)⟩
  · exact h.rst
theorem GM.below (h : GM w a L) (hb : Below w.heap.size w w') : GM w' a L := by
  rcases h with h | ⟨g, ha, h⟩
  · exact .inl h
  · exact .inr ⟨g, ha, h.below hb⟩
theorem SlR.reg {b N : Nat} {c : Nat → Value} (h : SlR w (some ⟨b, 0, none⟩) N c) (r : Reg lo hi w w') (hb : b < lo) : SlR w' (some ⟨b, 0, none⟩) N c := by
  rcases h with h | ⟨g, hg, h⟩
  · exact .inl h
  · simp only [Option.some.injEq, Addr.mk.injEq, and_true] at hg
    subst hg
    exact .inr ⟨_, rfl, r.row h (.inl hb)⟩
theorem SlR.blt {b N : Nat} {c : Nat → Value} (h : SlR w (some ⟨b, 0, none⟩) N c) (h0 : 0 < N) : b < w.heap.size := by
  obtain ⟨g, hg, h⟩ := h.row h0
  simp only [Option.some.injEq, Addr.mk.injEq, and_true] at hg
  rw [hg]
  exact h.lt
end
theorem markIntSS_gl (lo hi c : Nat) (a : Option Addr) (L : Rows) (w : World) (hm : L.length + sumR L L.length ≤ 1048576) (h : GL w lo hi a L) :
    Calls Try.prog 31 #[.slice a L.length c, .int .i64 1] w fun e w' => e = .returned (.int .i64 (1 + sumR L L.length)) ∧ GM w' a L ∧ Reg lo hi w w' := by
  rcases h with h | ⟨g, rfl, h⟩
  · subst h
    go_enter Try.func31, Try.ntmps31
    go_wp2
    refine wp_loop_rounds 1 ?_
    rw [rounds_succ]
    go_wp2
    go_ret
    exact ⟨rfl, .inl rfl, Reg.refl _ _ _⟩
  · refine (markIntSS_num lo hi g L.length c 1 L w (by omega) (by omega) hm h).mono ?_
    rintro e w' ⟨he, h1, h2⟩
    exact ⟨he, .inr ⟨g, rfl, h1⟩, h2⟩
theorem heldIntSS_gl (c : Nat) (a : Option Addr) (L : Rows) (w : World) (hm : L.length + sumR L L.length ≤ 1048576) (h : GM w a L) :
    Calls Try.prog 32 #[.slice a L.length c, .int .i64 1] w fun e w' => e = .returned (.int .i64 (1 + sumR L L.length)) ∧ w = w' := by
  rcases h with h | ⟨g, rfl, h⟩
  · subst h
    go_enter Try.func32, Try.ntmps32
    go_wp2
    refine wp_loop_rounds 1 ?_
    rw [rounds_succ]
    go_wp2
    go_ret
    exact ⟨rfl, rfl⟩
  · exact heldIntSS_any g L.length c 1 L w (by omega) (by omega) hm h
theorem touch_lens {d f : Int} {n : Nat} {ss : List ByteArray} {F : Nat → Nat} {k : Nat} : ∀ i, i < (touchR d f n ss F k).length → lenN (touchR d f n ss F k) i = 2 := by
  intro i hi
  unfold touchR at *
  by_cases ho : cardOkB d f ss = true
  · rw [if_pos ho] at *
    have hm : rowN (tcL (tbB F (d + f).toNat k (n * (d + f).toNat)) k (k * k)) i ∈ tcL (tbB F (d + f).toNat k (n * (d + f).toNat)) k (k * k) := by unfold rowN; rw [getD_at _ _ hi]; exact List.getElem_mem hi
    unfold lenN
    generalize rowN (tcL (tbB F (d + f).toNat k (n * (d + f).toNat)) k (k * k)) i = r at hm
    rw [tcL_eq] at hm
    obtain ⟨x, _, rfl⟩ := List.mem_map.1 hm
    rfl
  · rw [if_neg ho] at hi
    exact absurd hi (Nat.not_lt_zero i)
theorem sumR_two {L : Rows} (h : ∀ i, i < L.length → lenN L i = 2) : ∀ j, j ≤ L.length → sumR L j = 2 * j := by
  intro j
  induction j with
  | zero => intro _; rfl
  | succ j ih =>
    intro hj
    show sumR L j + lenN L j = _
    rw [ih (by omega), h j (by omega)]
    omega
theorem touch_room {d f : Int} {n : Nat} {ss : List ByteArray} {F : Nat → Nat} {k : Nat} (hF : FcO d f n ss F k) (hl : ss.length = n) (hm : (n : Int) + tot ss n ≤ 1048576) : (touchR d f n ss F k).length ≤ 25600 := by
  unfold touchR
  by_cases ho : cardOkB d f ss = true
  · obtain ⟨N, _, hFc, h160⟩ := hF.yes ho hl hm
    have hk : k ≤ 160 := Nat.le_trans hFc.le h160
    rw [if_pos ho]; exact Nat.le_trans (tcL_len _ _ _) (Nat.mul_le_mul hk hk)
  · rw [if_neg ho]; exact Nat.zero_le _
end Go.Proofs.Yteojoifhmaoiaaa
