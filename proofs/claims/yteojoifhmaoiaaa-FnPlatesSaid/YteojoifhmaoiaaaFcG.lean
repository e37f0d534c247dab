/-
  Plain facts of faces: each has one letter, so touching ones differ in it; two colors part all pairs; the ink of all plates covers the card. No program in sight.
  By an AI agent.
-/
import Derived.Test.YteojoifhmaoiaaaTwoI
import Derived.Test.YteojoifhmaoiaaaTwoG
import Derived.Test.YteojoifhmaoiaaaInk
import Derived.Test.YteojoifhmaoiaaaPlateI
import Derived.Test.YteojoifhmaoiaaaTileC
namespace Go.Proofs.Yteojoifhmaoiaaa
open Go.ChangeShapes Go.WideShapes Go.ChangeAt Go.RowKit Go.Joins Go.Deep
set_option maxRecDepth 100000
set_option linter.unusedVariables false

/-! ### Numbers of classes: they exist, all are taken, and tell the classes apart -/
section
variable {E : Nat → Nat → Prop} {m : Nat}
open Classical in
theorem root_ex (E : Nat → Nat → Prop) (t : Nat) : ∃ r, r ≤ t ∧ Conn E t r ∧ ∀ u, u < r → ¬ Conn E t u := by
  have H : ∀ b, (∃ u, u < b ∧ Conn E t u) → ∃ r, r < b ∧ Conn E t r ∧ ∀ u, u < r → ¬ Conn E t u := by
    intro b
    induction b with
    | zero => rintro ⟨u, h, _⟩; omega
    | succ b ih =>
      rintro ⟨u, h1, h2⟩
      by_cases h : ∃ u, u < b ∧ Conn E t u
      · obtain ⟨r, h3, h4⟩ := ih h
        exact ⟨r, by omega, h4⟩
      · have hu : u = b := by
          rcases Nat.lt_or_ge u b with h3 | h3
          · exact absurd ⟨u, h3, h2⟩ h
          · omega
        subst hu
        exact ⟨u, by omega, h2, fun v hv hc => h ⟨v, hv, hc⟩⟩
  obtain ⟨r, h1, h2⟩ := H (t + 1) ⟨t, by omega, .refl t⟩
  exact ⟨r, by omega, h2⟩
open Classical in
noncomputable def rootN (E : Nat → Nat → Prop) (t : Nat) : Nat := Classical.choose (root_ex E t)
open Classical in
theorem rootN_le (E : Nat → Nat → Prop) (t : Nat) : rootN E t ≤ t := (Classical.choose_spec (root_ex E t)).1
open Classical in
theorem rootN_conn (E : Nat → Nat → Prop) (t : Nat) : Conn E t (rootN E t) := (Classical.choose_spec (root_ex E t)).2.1
open Classical in
theorem rootN_min (E : Nat → Nat → Prop) (t : Nat) {u : Nat} (h : Conn E t u) : rootN E t ≤ u := by
  rcases Nat.lt_or_ge u (rootN E t) with h1 | h1
  · exact absurd h ((Classical.choose_spec (root_ex E t)).2.2 u h1)
  · exact h1
theorem rootN_same (hs : ∀ a b, E a b → E b a) {t u : Nat} (h : Conn E t u) : rootN E t = rootN E u := by
  have h1 := rootN_min E t (h.trans (rootN_conn E u))
  have h2 := rootN_min E u ((h.symm hs).trans (rootN_conn E t))
  omega
open Classical in
theorem rg_ex (hs : ∀ a b, E a b → E b a) (m : Nat) : ∃ F, RG E m F := by
  let R : Nat → Bool := fun t => decide (rootN E t = t)
  have hroot : ∀ t, R t = true ↔ rootN E t = t := fun t => decide_eq_true_iff
  have hrr : ∀ t, R (rootN E t) = true := fun t => (hroot _).2 (rootN_same hs (rootN_conn E t)).symm
  have hstep : ∀ t, cntB R (t + 1) = cntB R t + if R t then 1 else 0 := fun t => rfl
  have hmono : ∀ t u, t ≤ u → cntB R t ≤ cntB R u := by
    intro t u
    induction u with
    | zero => intro h; rw [show t = 0 by omega]; exact Nat.le_refl _
    | succ u ih =>
      intro h
      by_cases e : t = u + 1
      · subst e; exact Nat.le_refl _
      · have := ih (by omega)
        have := hstep u
        omega
  have htop : ∀ t, top (fun t => cntB R (rootN E t)) t = cntB R t := by
    intro t
    induction t with
    | zero => rfl
    | succ t ih =>
      show max (top (fun t => cntB R (rootN E t)) t) (cntB R (rootN E t) + 1) = _
      rw [ih, hstep]
      by_cases e : R t = true
      · rw [if_pos e, (hroot t).1 e]; omega
      · rw [if_neg e]
        have h1 := rootN_le E t
        have h2 : rootN E t ≠ t := fun h => e ((hroot t).2 h)
        have h3 := hstep (rootN E t)
        rw [if_pos (hrr t)] at h3
        have h4 := hmono (rootN E t + 1) t (by omega)
        omega
  refine ⟨fun t => cntB R (rootN E t), fun t u _ _ hc => by show cntB R (rootN E t) = cntB R (rootN E u); rw [rootN_same hs hc], fun t _ hn => ?_⟩
  rw [htop]
  have h1 := rootN_le E t
  have h2 : rootN E t = t := by
    rcases Nat.lt_or_ge (rootN E t) t with h | h
    · exact absurd (rootN_conn E t) (hn _ h)
    · omega
  show cntB R (rootN E t) = _
  rw [h2]
theorem RG.conn {F : Nat → Nat} (h : RG E m F) (hs : ∀ a b, E a b → E b a) {t u : Nat} (ht : t < m) (hu : u < m) (e : F t = F u) : Conn E t u := by
  have key : ∀ t, t < m → F t = F (rootN E t) ∧ F (rootN E t) = top F (rootN E t) := fun t ht => by
    have h1 := rootN_le E t
    refine ⟨h.same t _ ht (by omega) (rootN_conn E t), h.new _ (by omega) fun v hv hc => ?_⟩
    have := rootN_min E t ((rootN_conn E t).trans hc)
    omega
  obtain ⟨a1, a2⟩ := key t ht
  obtain ⟨b1, b2⟩ := key u hu
  have : rootN E t = rootN E u := by
    rcases Nat.lt_trichotomy (rootN E t) (rootN E u) with hh | hh | hh
    · have := lt_top (F := F) hh; omega
    · exact hh
    · have := lt_top (F := F) hh; omega
  exact (rootN_conn E t).trans (this ▸ (rootN_conn E u).symm hs)
theorem RG.onto {F : Nat → Nat} (h : RG E m F) : ∀ t, t ≤ m → ∀ c, c < top F t → ∃ u, u < t ∧ F u = c := by
  intro t
  induction t with
  | zero => intro _ c hc; exact absurd hc (Nat.not_lt_zero c)
  | succ t ih =>
    intro ht c hc
    have hc' : c < max (top F t) (F t + 1) := hc
    by_cases h1 : c < top F t
    · obtain ⟨u, h2, h3⟩ := ih (by omega) c h1
      exact ⟨u, by omega, h3⟩
    · by_cases h2 : F t = c
      · exact ⟨t, by omega, h2⟩
      · exfalso
        by_cases h3 : ∃ u, u < t ∧ Conn E t u
        · obtain ⟨u, h4, h5⟩ := h3
          have := h.same t u (by omega) (by omega) h5
          have := lt_top (F := F) h4
          omega
        · have := h.new t (by omega) fun u hu hc => h3 ⟨u, hu, hc⟩
          omega
end
/-! ### The letter of a tile -/
def ltr (ss : List ByteArray) (N t : Nat) : UInt8 := bt (rowS ss (t / N)) (t % N)
theorem div_pred {t u N : Nat} (h : u + 1 = t) (h0 : t % N ≠ 0) : u / N = t / N ∧ u % N = t % N - 1 := by
  rcases Nat.eq_zero_or_pos N with e | e
  · subst e
    simp only [Nat.div_zero, Nat.mod_zero, true_and]
    omega
  · have h1 := Nat.div_add_mod t N
    have h2 := Nat.mod_lt t e
    generalize t % N = r at *
    generalize t / N = q at *
    obtain ⟨r', rfl⟩ : ∃ r', r = r' + 1 := ⟨r - 1, by omega⟩
    have h3 : u = N * q + r' := by omega
    rw [h3]
    refine ⟨?_, ?_⟩
    · rw [Nat.mul_add_div e, Nat.div_eq_of_lt (by omega), Nat.add_zero]
    · rw [Nat.mul_add_mod, Nat.mod_eq_of_lt (by omega)]; rfl
theorem TE.ltr {ss : List ByteArray} {N m t u : Nat} (hN : 0 < N) (h : TE ss N m t u) : ltr ss N t = ltr ss N u := by
  have H : ∀ t u, hJ ss N t u → Go.Proofs.Yteojoifhmaoiaaa.ltr ss N t = Go.Proofs.Yteojoifhmaoiaaa.ltr ss N u := fun t u hj => by
    obtain ⟨h1, h2, h3⟩ := hj
    obtain ⟨h4, h5⟩ := div_pred h1 h2
    unfold Go.Proofs.Yteojoifhmaoiaaa.ltr
    rw [h4, h5, h3]
  have V : ∀ t u, vJ ss N t u → Go.Proofs.Yteojoifhmaoiaaa.ltr ss N t = Go.Proofs.Yteojoifhmaoiaaa.ltr ss N u := fun t u hj => by
    obtain ⟨h1, h2⟩ := hj
    unfold sameSt at h2
    rw [Bool.and_eq_true] at h2
    have h3 := of_decide_eq_true h2.1
    unfold Go.Proofs.Yteojoifhmaoiaaa.ltr
    subst h1
    rw [h3]
    rw [Nat.add_div_right _ hN, Nat.add_mod_right]
    rfl
  obtain ⟨_, _, h | h | h | h⟩ := h
  · exact H _ _ h
  · exact V _ _ h
  · exact (H _ _ h).symm
  · exact (V _ _ h).symm
theorem Conn.ltr {ss : List ByteArray} {N m t u : Nat} (hN : 0 < N) (h : Conn (TE ss N m) t u) : ltr ss N t = ltr ss N u := by
  induction h with
  | refl => rfl
  | step _ e ih => exact ih.trans (e.ltr hN)
/-- A strip has two letters. -/
theorem strip_two {s : ByteArray} (h : isStripB s = true) {i : Nat} (hi : i < s.size) : bt s i = 100 ∨ bt s i = 102 := by
  rw [bt_at hi]
  rcases Classical.em (s[i] = 100) with a | a
  · exact .inl a
  · rcases Classical.em (s[i] = 102) with b | b
    · exact .inr b
    · have := cnt_gap hi a b s.size hi (Nat.le_refl _)
      have h1 := (isStrip_iff.1 h).1
      unfold dN fN at h1
      omega
theorem Cd.strip {d f : Int} {n N : Nat} {ss : List ByteArray} (h : Cd d f n N ss) {k : Nat} (hk : k < n) : isStripB (rowS ss k) = true := by
  have h1 := stripIn_iff.1 (allIn_at (cardOk_iff.1 h.ok).2 (by rw [h.len]; exact hk))
  have hb := h.bds
  cases e : isStripB (rowS ss k)
  · have h2 := h1.1
    unfold rowS at e
    rw [downOf_f e] at h2
    omega
  · rfl
/-- All of a valid card's faces. -/
structure FG (d f : Int) (n N : Nat) (ss : List ByteArray) (F : Nat → Nat) (k : Nat) : Prop where
  cd : Cd d f n N ss
  rg : ∃ G, RG (TE ss N (n * N)) (n * N) G ∧ (∀ t, t < n * N → G t = F t) ∧ top G (n * N) = k
  k0 : 0 < k
  k160 : k ≤ 160
  m160 : n * N ≤ 160
theorem FcO.all {d f : Int} {n : Nat} {ss : List ByteArray} {F : Nat → Nat} {k : Nat} (h : FcO d f n ss F k) (ho : cardOkB d f ss = true) (hl : ss.length = n) (hm : (n : Int) + tot ss n ≤ 1048576) : ∃ N, FG d f n N ss F k := by
  obtain ⟨N, hC, hF, h160⟩ := h.yes ho hl hm
  obtain ⟨G, hG⟩ := rg_ex (E := TE ss N (n * N)) (fun a b h => h.symm) (n * N)
  have hb := hC.bds
  have hmn : 0 < n * N := Nat.mul_pos (by omega) (by omega)
  have ht := hF.top G hG
  refine ⟨N, hC, ⟨G, hG, hF.eq G hG, ht⟩, ?_, Nat.le_trans hF.le h160, h160⟩
  have := lt_top (F := G) hmn
  omega
section
variable {d f : Int} {n N : Nat} {ss : List ByteArray} {F : Nat → Nat} {k : Nat}
theorem FG.lt (h : FG d f n N ss F k) {t : Nat} (ht : t < n * N) : F t < k := by
  obtain ⟨G, hG, he, htop⟩ := h.rg
  rw [← he t ht, ← htop]
  exact lt_top ht
theorem FG.onto (h : FG d f n N ss F k) {c : Nat} (hc : c < k) : ∃ t, t < n * N ∧ F t = c := by
  obtain ⟨G, hG, he, htop⟩ := h.rg
  obtain ⟨u, h1, h2⟩ := hG.onto (n * N) (Nat.le_refl _) c (by omega)
  exact ⟨u, h1, by rw [← he u h1, h2]⟩
theorem FG.ltr (h : FG d f n N ss F k) {t u : Nat} (ht : t < n * N) (hu : u < n * N) (e : F t = F u) : ltr ss N t = ltr ss N u := by
  obtain ⟨G, hG, he, htop⟩ := h.rg
  refine (hG.conn (fun a b h => h.symm) ht hu (by rw [he t ht, he u hu, e])).ltr ?_
  have := h.cd.bds; omega
open Classical in
/-- The letter of a face. -/
noncomputable def lam (n N : Nat) (ss : List ByteArray) (F : Nat → Nat) (c : Nat) : Bool := decide (∃ t, t < n * N ∧ F t = c ∧ ltr ss N t = 100)
open Classical in
theorem FG.lam (h : FG d f n N ss F k) {t : Nat} (ht : t < n * N) : lam n N ss F (F t) = decide (Go.Proofs.Yteojoifhmaoiaaa.ltr ss N t = 100) := by
  unfold Go.Proofs.Yteojoifhmaoiaaa.lam
  refine decide_eq_decide.2 ⟨?_, fun e => ⟨t, ht, rfl, e⟩⟩
  rintro ⟨u, hu, e, hl⟩
  rw [h.ltr ht hu e.symm]; exact hl
theorem prL_src {F : Nat → Nat} {N : Nat} : ∀ t p, p ∈ prL F N t → ∃ u, u < t ∧ 0 < u % N ∧ F u ≠ F (u - 1) ∧ p = (min (F u) (F (u - 1)), max (F u) (F (u - 1))) := by
  intro t
  induction t with
  | zero => intro p h; simp [prL] at h
  | succ t ih =>
    intro p hp
    rw [prL_succ] at hp
    rcases List.mem_append.1 hp with h | h
    · obtain ⟨u, h1, h2⟩ := ih p h
      exact ⟨u, by omega, h2⟩
    · by_cases hc : 0 < t % N ∧ F t ≠ F (t - 1)
      · rw [if_pos hc, List.mem_singleton] at h
        exact ⟨t, by omega, hc.1, hc.2, h⟩
      · rw [if_neg hc] at h
        simp at h
/-- Two tiles beside each other of two faces have two letters. -/
theorem FG.beside (h : FG d f n N ss F k) {u : Nat} (hu : u < n * N) (h0 : 0 < u % N) (hne : F u ≠ F (u - 1)) : Go.Proofs.Yteojoifhmaoiaaa.lam n N ss F (F u) ≠ Go.Proofs.Yteojoifhmaoiaaa.lam n N ss F (F (u - 1)) := by
  have hu0 : u ≠ 0 := fun e => by subst e; simp at h0
  obtain ⟨t, rfl⟩ : ∃ t, u = t + 1 := ⟨u - 1, by omega⟩
  rw [Nat.add_sub_cancel] at hne ⊢
  rw [h.lam hu, h.lam (show t < n * N by omega)]
  obtain ⟨h4, h5⟩ := div_pred (N := N) (show t + 1 = t + 1 from rfl) (by omega)
  obtain ⟨x1, x2, _⟩ := tile_of hu
  obtain ⟨y1, y2, _⟩ := tile_of (show t < n * N by omega)
  have hl : Go.Proofs.Yteojoifhmaoiaaa.ltr ss N (t + 1) ≠ Go.Proofs.Yteojoifhmaoiaaa.ltr ss N t := fun e => by
    apply hne
    obtain ⟨G, hG, he, htop⟩ := h.rg
    rw [← he _ hu, ← he t (by omega)]
    refine hG.same _ _ hu (by omega) (Conn.one ⟨hu, by omega, .inl ⟨rfl, by omega, ?_⟩⟩)
    unfold Go.Proofs.Yteojoifhmaoiaaa.ltr at e
    rw [h4, h5] at e
    exact e
  have t1 := strip_two (h.cd.strip x1) (i := (t + 1) % N) (by rw [h.cd.size x1]; exact x2)
  have t2 := strip_two (h.cd.strip y1) (i := t % N) (by rw [h.cd.size y1]; exact y2)
  have t1 : Go.Proofs.Yteojoifhmaoiaaa.ltr ss N (t + 1) = 100 ∨ Go.Proofs.Yteojoifhmaoiaaa.ltr ss N (t + 1) = 102 := t1
  have t2 : Go.Proofs.Yteojoifhmaoiaaa.ltr ss N t = 100 ∨ Go.Proofs.Yteojoifhmaoiaaa.ltr ss N t = 102 := t2
  intro e
  have e2 := decide_eq_decide.1 e
  rcases t1 with a | a <;> rcases t2 with b | b
  · exact hl (a.trans b.symm)
  · have := e2.1 a
    rw [b] at this
    exact absurd this (by decide)
  · have := e2.2 b
    rw [a] at this
    exact absurd this (by decide)
  · exact hl (a.trans b.symm)
/-- What the rows of TouchingFaces are. -/
theorem FG.row (h : FG d f n N ss F k) {j : Nat} (hj : j < (touchR d f n ss F k).length) :
    ∃ p q : Nat, rowN (touchR d f n ss F k) j = [(p : Int), (q : Int)] ∧ p < q ∧ q < k ∧ Go.Proofs.Yteojoifhmaoiaaa.lam n N ss F p ≠ Go.Proofs.Yteojoifhmaoiaaa.lam n N ss F q := by
  have hN : (d + f).toNat = N := by have := h.cd.sum; omega
  unfold touchR at hj ⊢
  rw [if_pos h.cd.ok, hN] at hj
  rw [if_pos h.cd.ok, hN]
  have hmem : rowN (tcL (tbB F N k (n * N)) k (k * k)) j ∈ tcL (tbB F N k (n * N)) k (k * k) := by unfold rowN; rw [getD_at _ _ hj]; exact List.getElem_mem hj
  generalize rowN (tcL (tbB F N k (n * N)) k (k * k)) j = r at hmem
  rw [tcL_eq] at hmem
  obtain ⟨x, hx, rfl⟩ := List.mem_map.1 hmem
  have hx2 := (List.mem_filter.1 hx).2
  unfold tbB at hx2
  obtain ⟨p, hp, he⟩ := List.any_eq_true.1 hx2
  have he := of_decide_eq_true he
  have hlt := prL_lt (F := F) (N := N) (m := n * N) (k := k) (fun t ht => h.lt ht) (n * N) (Nat.le_refl _) p hp
  obtain ⟨u, hu, h0, hne, hpe⟩ := prL_src _ _ hp
  have hb := h.beside hu h0 hne
  have hdv : x / k = p.1 ∧ x % k = p.2 := by
    rw [← he]
    exact ⟨tile_div hlt.2, tile_mod hlt.2⟩
  refine ⟨x / k, x % k, rfl, ?_⟩
  rw [hdv.1, hdv.2]
  refine ⟨?_, hlt.2, ?_⟩
  · rw [hpe]; show min _ _ < max _ _; omega
  · rw [hpe]
    show Go.Proofs.Yteojoifhmaoiaaa.lam n N ss F (min _ _) ≠ Go.Proofs.Yteojoifhmaoiaaa.lam n N ss F (max _ _)
    rcases Nat.lt_or_ge (F u) (F (u - 1)) with hh | hh
    · rw [Nat.min_eq_left (by omega), Nat.max_eq_right (by omega)]; exact hb
    · rw [Nat.min_eq_right (by omega), Nat.max_eq_left (by omega)]; exact hb.symm
/-- The colors of TwoColors. -/
theorem FG.two (h : FG d f n N ss F k) : Tg (pAt (touchR d f n ss F k) 0) (pAt (touchR d f n ss F k) 1) (touchR d f n ss F k).length k k (twoR d f n ss F k) := by
  unfold twoR
  rw [if_pos h.cd.ok]
  have H : ∀ j, j < (touchR d f n ss F k).length → pAt (touchR d f n ss F k) 0 j < pAt (touchR d f n ss F k) 1 j ∧ pAt (touchR d f n ss F k) 1 j < k ∧ Go.Proofs.Yteojoifhmaoiaaa.lam n N ss F (pAt (touchR d f n ss F k) 0 j) ≠ Go.Proofs.Yteojoifhmaoiaaa.lam n N ss F (pAt (touchR d f n ss F k) 1 j) := fun j hj => by
    obtain ⟨p, q, h1, h2⟩ := h.row hj
    unfold pAt
    rw [h1]
    exact h2
  exact two_good (lam := Go.Proofs.Yteojoifhmaoiaaa.lam n N ss F) (fun j hj => ⟨by have := H j hj; omega, (H j hj).2.1⟩) (fun j hj => (H j hj).2.2) k (Nat.le_refl _)
theorem FG.twoLen (h : FG d f n N ss F k) : (twoR d f n ss F k).length = k := h.two.len
theorem FG.twoCol (h : FG d f n N ss F k) {i : Nat} (hi : i < k) : 0 ≤ (twoR d f n ss F k).getD i 0 ∧ (twoR d f n ss F k).getD i 0 ≤ 1 := by
  have h1 := h.two.done i hi
  have h2 := h.two.ok i (by rw [h.twoLen]; exact hi)
  omega
theorem FG.colB (h : FG d f n N ss F k) {zs : List Int} (hl : zs.length = k) (hz : ∀ i, i < k → 0 ≤ zs.getD i 0 ∧ zs.getD i 0 ≤ 7) : Go.Proofs.Yteojoifhmaoiaaa.colB d f ss zs k = true := by
  unfold Go.Proofs.Yteojoifhmaoiaaa.colB
  rw [h.cd.ok, hl]
  have : colsB zs = true := by
    unfold colsB
    rw [List.all_eq_true]
    intro x hx
    obtain ⟨i, hi, rfl⟩ := List.mem_iff_getElem.1 hx
    have := hz i (by omega)
    rw [getD_at _ _ hi] at this
    exact decide_eq_true this
  rw [this]
  simp
theorem FG.twoB (h : FG d f n N ss F k) : Go.Proofs.Yteojoifhmaoiaaa.colB d f ss (twoR d f n ss F k) k = true := h.colB h.twoLen fun i hi => by have := h.twoCol hi; omega
theorem fcN_all {zs : List Int} {L : Rows} : ∀ j, (∀ i, i < j → colAt zs L i 0 ≠ colAt zs L i 1) → fcN zs L j = j := by
  intro j
  induction j with
  | zero => intro _; rfl
  | succ j ih =>
    intro h
    show fcN zs L j + (if _ then 0 else 1) = j + 1
    rw [if_neg (h j (by omega)), ih (fun i hi => h i (by omega))]
theorem fcN_none {zs : List Int} {L : Rows} : ∀ j, (∀ i, i < j → colAt zs L i 0 = colAt zs L i 1) → fcN zs L j = 0 := by
  intro j
  induction j with
  | zero => intro _; rfl
  | succ j ih =>
    intro h
    show fcN zs L j + (if _ then 0 else 1) = 0
    rw [if_pos (h j (by omega)), ih (fun i hi => h i (by omega))]
/-- What the law asks of a row. -/
theorem FG.ask (h : FG d f n N ss F k) {j : Nat} (hj : j < (touchR d f n ss F k).length) :
    ∃ p q : Nat, rowN (touchR d f n ss F k) j = [(p : Int), (q : Int)] ∧ p < q ∧ q < k ∧ (twoR d f n ss F k).getD p 0 ≠ (twoR d f n ss F k).getD q 0 := by
  obtain ⟨p, q, h1, h2, h3, _⟩ := h.row hj
  refine ⟨p, q, h1, h2, h3, ?_⟩
  have h4 := h.two.part j hj
  unfold pAt at h4
  rw [h1] at h4
  exact h4 (h.two.done p (by omega))
theorem FG.foldTwo (h : FG d f n N ss F k) : foldV d f n ss (twoR d f n ss F k) F k = ((touchR d f n ss F k).length : Nat) := by
  unfold foldV
  rw [if_pos h.twoB, fcN_all _ fun i hi => ?_]
  obtain ⟨p, q, h1, h2, h3, h4⟩ := h.ask hi
  unfold colAt
  rw [h1]
  exact h4
/-- All of one color. -/
def ones (k : Nat) : List Int := List.replicate k 3
theorem ones_at {k i : Nat} (h : i < k) : (ones k).getD i 0 = 3 := by unfold ones; simp [List.getD, h]
theorem ones_len (k : Nat) : (ones k).length = k := by unfold ones; simp
theorem FG.onesB (h : FG d f n N ss F k) : Go.Proofs.Yteojoifhmaoiaaa.colB d f ss (ones k) k = true := h.colB (ones_len k) fun i hi => by rw [ones_at hi]; decide
theorem FG.foldOnes (h : FG d f n N ss F k) : foldV d f n ss (ones k) F k = 0 := by
  unfold foldV
  rw [if_pos h.onesB, fcN_none _ fun i hi => ?_]
  · rfl
  obtain ⟨p, q, h1, h2, h3, _⟩ := h.row hi
  unfold colAt
  rw [h1]
  show (ones k).getD p 0 = (ones k).getD q 0
  rw [ones_at h3, ones_at (by omega)]
theorem cntB_all {P : Nat → Bool} : ∀ m, (∀ t, t < m → P t = true) → cntB P m = m := by
  intro m
  induction m with
  | zero => intro _; rfl
  | succ m ih => intro h; show cntB P m + (if P m then 1 else 0) = m + 1; rw [ih (fun t ht => h t (by omega)), h m (by omega)]; rfl
theorem cntB_none {P : Nat → Bool} : ∀ m, (∀ t, t < m → P t = false) → cntB P m = 0 := by
  intro m
  induction m with
  | zero => intro _; rfl
  | succ m ih => intro h; show cntB P m + (if P m then 1 else 0) = 0; rw [ih (fun t ht => h t (by omega)), h m (by omega)]; rfl
theorem cntB_some {P : Nat → Bool} {t : Nat} (h : P t = true) : ∀ m, t < m → 1 ≤ cntB P m := by
  intro m
  induction m with
  | zero => intro h; omega
  | succ m ih =>
    intro ht
    show 1 ≤ cntB P m + (if P m then 1 else 0)
    by_cases e : t = m
    · subst e; rw [h]; simp
    · have := ih (by omega); omega
theorem FG.inkV (h : FG d f n N ss F k) {zs : List Int} (hb : Go.Proofs.Yteojoifhmaoiaaa.colB d f ss zs k = true) (c : Int) : inkV d f n ss zs F k c = inkN zs F c (n * N) := by
  have hN : (d + f).toNat = N := by have := h.cd.sum; omega
  unfold Go.Proofs.Yteojoifhmaoiaaa.inkV
  rw [if_pos hb, hN]
theorem FG.inkOnes (h : FG d f n N ss F k) : Go.Proofs.Yteojoifhmaoiaaa.inkV d f n ss (ones k) F k 3 = n * N := by
  rw [h.inkV h.onesB]
  exact cntB_all _ fun t ht => by rw [ones_at (h.lt ht)]; rfl
theorem FG.tiles (h : FG d f n N ss F k) : tiles d f ss = ((n * N : Nat) : Int) := by
  unfold Go.Proofs.Yteojoifhmaoiaaa.tiles
  rw [if_pos h.cd.ok, h.cd.len, h.cd.sum, Int.natCast_mul]
theorem FG.platesOnes (h : FG d f n N ss F k) : platesR d f ss (ones k) k = [3] := by
  unfold platesR
  rw [if_pos h.onesB]
  refine sorted_ext (plL_up _ 8) (by simp) fun x => ?_
  rw [plL_mem, List.mem_singleton]
  constructor
  · rintro ⟨_, _, i, hi, e⟩
    rw [ones_at (by rw [ones_len] at hi; exact hi)] at e
    exact e.symm
  · rintro rfl
    exact ⟨by decide, by decide, 0, by rw [ones_len]; exact h.k0, ones_at h.k0⟩
/-- The ink of the first colors. -/
def inkT (zs : List Int) (F : Nat → Nat) (m : Nat) (L : List Int) : Nat → Nat
  | 0 => 0
  | j + 1 => inkT zs F m L j + inkN zs F (L.getD j 0) m
theorem inkT_app {zs : List Int} {F : Nat → Nat} {m : Nat} {L M : List Int} : ∀ j, j ≤ L.length → inkT zs F m (L ++ M) j = inkT zs F m L j := by
  intro j
  induction j with
  | zero => intro _; rfl
  | succ j ih =>
    intro hj
    show inkT zs F m (L ++ M) j + inkN zs F ((L ++ M).getD j 0) m = inkT zs F m L j + inkN zs F (L.getD j 0) m
    rw [ih (by omega)]
    congr 2
    simp [List.getD, List.getElem?_append, show j < L.length by omega]
theorem inkT_plates {zs : List Int} {F : Nat → Nat} {m : Nat} (hF : ∀ t, t < m → F t < zs.length) : ∀ x, inkT zs F m (plL zs x) (plL zs x).length = cntB (fun t => decide (0 ≤ zs.getD (F t) 0 ∧ zs.getD (F t) 0 < (x : Int))) m := by
  intro x
  induction x with
  | zero => exact (cntB_none m fun t ht => decide_eq_false (by omega)).symm
  | succ x ih =>
    have hadd : cntB (fun t => decide (0 ≤ zs.getD (F t) 0 ∧ zs.getD (F t) 0 < ((x + 1 : Nat) : Int))) m = cntB (fun t => decide (0 ≤ zs.getD (F t) 0 ∧ zs.getD (F t) 0 < (x : Int))) m + cntB (fun t => decide (zs.getD (F t) 0 = (x : Int))) m := cntB_add fun t ht => by
      generalize zs.getD (F t) 0 = v
      by_cases e : v = (x : Int)
      · rw [decide_eq_true e, decide_eq_false (show ¬ (0 ≤ v ∧ v < (x : Int)) by omega), decide_eq_true (show 0 ≤ v ∧ v < ((x + 1 : Nat) : Int) by omega)]; rfl
      · rw [decide_eq_false e]
        by_cases e2 : 0 ≤ v ∧ v < (x : Int)
        · rw [decide_eq_true e2, decide_eq_true (show 0 ≤ v ∧ v < ((x + 1 : Nat) : Int) by omega)]; rfl
        · rw [decide_eq_false e2, decide_eq_false (show ¬ (0 ≤ v ∧ v < ((x + 1 : Nat) : Int)) by omega)]; rfl
    rw [hadd, ← ih]
    have hpl : plL zs (x + 1) = plL zs x ++ if usedB zs (x : Int) zs.length = true then [(x : Int)] else [] := rfl
    rw [hpl]
    by_cases hu : usedB zs (x : Int) zs.length = true
    · rw [if_pos hu, List.length_append, List.length_singleton]
      show inkT zs F m (plL zs x ++ [(x : Int)]) (plL zs x).length + inkN zs F ((plL zs x ++ [(x : Int)]).getD (plL zs x).length 0) m = _
      rw [inkT_app _ (Nat.le_refl _), show (plL zs x ++ [(x : Int)]).getD (plL zs x).length 0 = (x : Int) from by simp [List.getD]]
      rfl
    · rw [if_neg hu, List.append_nil]
      rw [cntB_none m fun t ht => decide_eq_false fun e => hu ((usedB_iff _).2 ⟨F t, hF t ht, e⟩)]
      rfl
theorem FG.inkSum (h : FG d f n N ss F k) : inkT (twoR d f n ss F k) F (n * N) (platesR d f ss (twoR d f n ss F k) k) (platesR d f ss (twoR d f n ss F k) k).length = n * N := by
  unfold platesR
  rw [if_pos h.twoB, inkT_plates (fun t ht => by rw [h.twoLen]; exact h.lt ht)]
  exact cntB_all _ fun t ht => decide_eq_true (by have := h.twoCol (h.lt ht); omega)
/-- Each plate is 0 or 1 and covers a tile. -/
theorem FG.plate (h : FG d f n N ss F k) {j : Nat} (hj : j < (platesR d f ss (twoR d f n ss F k) k).length) :
    (0 ≤ (platesR d f ss (twoR d f n ss F k) k).getD j 0 ∧ (platesR d f ss (twoR d f n ss F k) k).getD j 0 ≤ 1) ∧ 1 ≤ inkN (twoR d f n ss F k) F ((platesR d f ss (twoR d f n ss F k) k).getD j 0) (n * N) := by
  have hm : (platesR d f ss (twoR d f n ss F k) k).getD j 0 ∈ platesR d f ss (twoR d f n ss F k) k := by rw [getD_at _ _ hj]; exact List.getElem_mem hj
  generalize (platesR d f ss (twoR d f n ss F k) k).getD j 0 = v at *
  unfold platesR at hm
  rw [if_pos h.twoB] at hm
  obtain ⟨_, _, i, hi, e⟩ := (plL_mem _ v 8).1 hm
  rw [h.twoLen] at hi
  have := h.twoCol hi
  refine ⟨by omega, ?_⟩
  obtain ⟨t, ht, hF⟩ := h.onto hi
  exact cntB_some (t := t) (decide_eq_true (by rw [hF, e])) _ ht
end
end Go.Proofs.Yteojoifhmaoiaaa
