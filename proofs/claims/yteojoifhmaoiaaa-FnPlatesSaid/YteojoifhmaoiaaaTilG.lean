/-
  Faces as classes of a graph: numbers in the order of their least tiles; the union of classes, and a fill in depth. No program in sight.
  By an AI agent.
-/
import Derived.Test.YteojoifhmaoiaaaBase
namespace Go.Proofs.Yteojoifhmaoiaaa
set_option maxRecDepth 100000
set_option linter.unusedVariables false

inductive Conn (E : Nat → Nat → Prop) : Nat → Nat → Prop
  | refl (t : Nat) : Conn E t t
  | step {t u v : Nat} : Conn E t u → E u v → Conn E t v
section
variable {E : Nat → Nat → Prop} {m : Nat}
theorem Conn.one {t u : Nat} (h : E t u) : Conn E t u := .step (.refl t) h
theorem Conn.trans {t u v : Nat} (h : Conn E t u) (h2 : Conn E u v) : Conn E t v := by
  induction h2 with
  | refl => exact h
  | step _ e ih => exact .step ih e
theorem Conn.symm (hs : ∀ a b, E a b → E b a) {t u : Nat} (h : Conn E t u) : Conn E u t := by
  induction h with
  | refl => exact .refl _
  | step _ e ih => exact (Conn.one (hs _ _ e)).trans ih
/-- One more than the greatest of the first t numbers. -/
def top (F : Nat → Nat) : Nat → Nat
  | 0 => 0
  | t + 1 => max (top F t) (F t + 1)
theorem top_congr {F G : Nat → Nat} {t : Nat} (h : ∀ x, x < t → F x = G x) : top F t = top G t := by
  induction t with
  | zero => rfl
  | succ t ih => show max _ _ = max _ _; rw [ih (fun x hx => h x (by omega)), h t (by omega)]
theorem lt_top {F : Nat → Nat} {t x : Nat} (h : x < t) : F x < top F t := by
  induction t with
  | zero => omega
  | succ t ih =>
    show _ < max _ _
    by_cases e : x = t
    · subst e; omega
    · have := ih (by omega); omega
/-- The numbers of classes, in the order of their least members. -/
structure RG (E : Nat → Nat → Prop) (m : Nat) (F : Nat → Nat) : Prop where
  same : ∀ t u, t < m → u < m → Conn E t u → F t = F u
  new : ∀ t, t < m → (∀ u, u < t → ¬ Conn E t u) → F t = top F t
theorem RG.unique {F G : Nat → Nat} (hF : RG E m F) (hG : RG E m G) : ∀ n t, t < n → t < m → F t = G t := by
  intro n
  induction n with
  | zero => intro t h; omega
  | succ n ih =>
    intro t ht hm
    by_cases h : ∃ u, u < t ∧ Conn E t u
    · obtain ⟨u, hu, hc⟩ := h
      rw [hF.same t u hm (by omega) hc, hG.same t u hm (by omega) hc]
      exact ih u (by omega) (by omega)
    · have h' : ∀ u, u < t → ¬ Conn E t u := fun u hu hc => h ⟨u, hu, hc⟩
      rw [hF.new t hm h', hG.new t hm h']
      exact top_congr fun x hx => ih x (by omega) (by omega)
theorem RG.eq {F G : Nat → Nat} (hF : RG E m F) (hG : RG E m G) {t : Nat} (h : t < m) : F t = G t := hF.unique hG (t + 1) t (by omega) h
theorem RG.top_eq {F G : Nat → Nat} (hF : RG E m F) (hG : RG E m G) : top F m = top G m := top_congr fun _ h => hF.eq hG h
/-! ### The union of classes -/
structure GI (E : Nat → Nat → Prop) (m : Nat) (P : Nat → Nat → Prop) (g : Nat → Nat) : Prop where
  le : ∀ x, x < m → g x ≤ x
  idem : ∀ x, x < m → g (g x) = g x
  snd : ∀ x, x < m → Conn E x (g x)
  prc : ∀ a b, a < m → b < m → P a b → g a = g b
theorem GI.start : GI E m (fun _ _ => False) (fun x => x) := ⟨fun _ _ => Nat.le_refl _, fun _ _ => rfl, fun _ _ => .refl _, fun _ _ _ _ h => h.elim⟩
theorem GI.mono {P Q : Nat → Nat → Prop} {g : Nat → Nat} (h : GI E m P g) (hq : ∀ a b, a < m → b < m → Q a b → P a b ∨ g a = g b) : GI E m Q g :=
  ⟨h.le, h.idem, h.snd, fun a b ha hb hab => (hq a b ha hb hab).elim (h.prc a b ha hb) id⟩
theorem GI.congr {P : Nat → Nat → Prop} {g f : Nat → Nat} (h : GI E m P g) (he : ∀ x, x < m → f x = g x) : GI E m P f := by
  refine ⟨fun x hx => by rw [he x hx]; exact h.le x hx, fun x hx => ?_, fun x hx => by rw [he x hx]; exact h.snd x hx, fun a b ha hb hab => by rw [he a ha, he b hb]; exact h.prc a b ha hb hab⟩
  have := h.le x hx
  rw [he x hx, he (g x) (by omega)]; exact h.idem x hx
theorem GI.union {P : Nat → Nat → Prop} {g : Nat → Nat} {a b : Nat} (h : GI E m P g) (ha : a < m) (hb : b < m) (ga : g a = a) (gb : g b = b) (hab : a < b) (hs : ∀ a b, E a b → E b a) (hc : Conn E b a) :
    GI E m P (fun x => if g x = b then a else g x) := by
  refine ⟨fun x hx => ?_, fun x hx => ?_, fun x hx => ?_, fun c d hc' hd hp => ?_⟩
  · have := h.le x hx
    show (if g x = b then a else g x) ≤ x
    split <;> omega
  · by_cases e : g x = b
    · show (if g (if g x = b then a else g x) = b then a else g (if g x = b then a else g x)) = (if g x = b then a else g x)
      rw [if_pos e, ga, if_neg (by omega)]
    · show (if g (if g x = b then a else g x) = b then a else g (if g x = b then a else g x)) = (if g x = b then a else g x)
      rw [if_neg e, h.idem x hx, if_neg e]
  · show Conn E x (if g x = b then a else g x)
    split
    · rename_i e
      exact (e ▸ h.snd x hx).trans hc
    · exact h.snd x hx
  · show (if g c = b then a else g c) = (if g d = b then a else g d)
    rw [h.prc c d hc' hd hp]
theorem GI.whole {P : Nat → Nat → Prop} {g : Nat → Nat} (h : GI E m P g) (hE : ∀ a b, E a b → a < m ∧ b < m ∧ (P a b ∨ P b a)) {x y : Nat} (hc : Conn E x y) : g x = g y := by
  induction hc with
  | refl => rfl
  | step _ e ih =>
    obtain ⟨h1, h2, h3⟩ := hE _ _ e
    rw [ih]
    rcases h3 with h3 | h3
    · exact h.prc _ _ h1 h2 h3
    · exact (h.prc _ _ h2 h1 h3).symm
/-- The numbers of the first t tiles. -/
structure NumIn (g : Nat → Nat) (t : Nat) (b : Nat → Nat) (next : Nat) : Prop where
  own : ∀ x, x < t → g x = x → b x = top b x
  rep : ∀ x, x < t → b x = b (g x)
  nx : next = top b t
theorem NumIn.start (g b : Nat → Nat) : NumIn g 0 b 0 := ⟨fun _ h => by omega, fun _ h => by omega, rfl⟩
theorem top_put {b : Nat → Nat} {t v x : Nat} (h : x ≤ t) : top (fun y => if y = t then v else b y) x = top b x := top_congr fun y hy => if_neg (by omega)
theorem NumIn.root {g b : Nat → Nat} {t next : Nat} (h : NumIn g t b next) (hle : ∀ x, x ≤ t → g x ≤ x) (hg : g t = t) : NumIn g (t + 1) (fun y => if y = t then next else b y) (next + 1) := by
  refine ⟨fun x hx e => ?_, fun x hx => ?_, ?_⟩
  · rw [top_put (by omega)]
    by_cases e2 : x = t
    · subst e2; rw [if_pos rfl]; exact h.nx
    · rw [if_neg e2]; exact h.own x (by omega) e
  · by_cases e2 : x = t
    · subst e2; rw [hg]
    · have := hle x (by omega)
      rw [if_neg e2, if_neg (by omega)]; exact h.rep x (by omega)
  · show next + 1 = max (top _ t) ((if t = t then next else b t) + 1)
    rw [top_put (Nat.le_refl _), ← h.nx, if_pos rfl]; omega
theorem NumIn.old {g b : Nat → Nat} {t next : Nat} (h : NumIn g t b next) (hle : ∀ x, x ≤ t → g x ≤ x) (hg : g t ≠ t) : NumIn g (t + 1) (fun y => if y = t then b (g t) else b y) next := by
  have hlt : g t < t := by have := hle t (Nat.le_refl _); omega
  refine ⟨fun x hx e => ?_, fun x hx => ?_, ?_⟩
  · rw [top_put (by omega)]
    by_cases e2 : x = t
    · subst e2; exact absurd e hg
    · rw [if_neg e2]; exact h.own x (by omega) e
  · by_cases e2 : x = t
    · subst e2; rw [if_pos rfl, if_neg (by omega)]
    · have := hle x (by omega)
      rw [if_neg e2, if_neg (by omega)]; exact h.rep x (by omega)
  · show next = max (top _ t) ((if t = t then b (g t) else b t) + 1)
    have := lt_top (F := b) hlt
    rw [top_put (Nat.le_refl _), ← h.nx, if_pos rfl]
    have h2 := h.nx
    omega
theorem NumIn.done {P : Nat → Nat → Prop} {g b : Nat → Nat} {next : Nat} (h : NumIn g m b next) (hg : GI E m P g) (hE : ∀ a b, E a b → a < m ∧ b < m ∧ (P a b ∨ P b a)) : RG E m b := by
  refine ⟨fun t u ht hu hc => ?_, fun t ht hn => h.own t ht ?_⟩
  · rw [h.rep t ht, h.rep u hu, hg.whole hE hc]
  · have h1 := hg.le t ht
    by_cases e : g t = t
    · exact e
    · exact absurd (hg.snd t ht) (hn (g t) (by omega))
/-! ### A fill in depth -/
def cntB (P : Nat → Bool) : Nat → Nat
  | 0 => 0
  | k + 1 => cntB P k + if P k then 1 else 0
theorem cntB_le (P : Nat → Bool) (k : Nat) : cntB P k ≤ k := by
  induction k with
  | zero => exact Nat.le_refl _
  | succ k ih => show cntB P k + _ ≤ _; split <;> omega
theorem cntB_congr {P Q : Nat → Bool} {k : Nat} (h : ∀ x, x < k → P x = Q x) : cntB P k = cntB Q k := by
  induction k with
  | zero => rfl
  | succ k ih => show _ + _ = _ + _; rw [ih (fun x hx => h x (by omega)), h k (by omega)]
theorem cntB_put {P Q : Nat → Bool} {k t : Nat} (ht : t < k) (h1 : P t = true) (h2 : Q t = false) (h : ∀ x, x ≠ t → P x = Q x) : cntB P k = cntB Q k + 1 := by
  induction k with
  | zero => omega
  | succ k ih =>
    show cntB P k + _ = cntB Q k + _ + 1
    by_cases e : t = k
    · subst e
      rw [cntB_congr (fun x hx => h x (by omega)), h1, h2]; simp
    · rw [ih (by omega), h k (by omega)]; omega
theorem cntB_le_of {P Q : Nat → Bool} {k : Nat} (h : ∀ x, P x = true → Q x = true) : cntB P k ≤ cntB Q k := by
  induction k with
  | zero => exact Nat.le_refl _
  | succ k ih =>
    show cntB P k + _ ≤ cntB Q k + _
    cases e : P k
    · simp; omega
    · simp [h k e]; omega
theorem cntB_pos {P : Nat → Bool} {k t : Nat} (ht : t < k) (h : P t = true) : 0 < cntB P k := by
  induction k with
  | zero => omega
  | succ k ih =>
    show 0 < cntB P k + _
    by_cases e : t = k
    · subst e; simp [h]
    · have := ih (by omega); omega
/-- Tiles that have no number yet. -/
def un (m : Nat) (F : Nat → Int) : Nat := cntB (fun x => decide (F x < 0)) m
structure Fill (E : Nat → Nat → Prop) (F : Nat → Int) (t : Nat) (fc : Int) (T : Nat → Int) : Prop where
  chg : ∀ x, T x = F x ∨ (F x < 0 ∧ T x = fc)
  self : T t = fc
  con : ∀ x, F x < 0 → T x = fc → Conn E t x
  shut : ∀ x y, F x < 0 → T x = fc → E x y → 0 ≤ T y
structure FillIn (E : Nat → Nat → Prop) (F : Nat → Int) (t : Nat) (fc : Int) (Q : Nat → Prop) (T : Nat → Int) : Prop where
  fc0 : 0 ≤ fc
  chg : ∀ x, T x = F x ∨ (F x < 0 ∧ T x = fc)
  self : T t = fc
  con : ∀ x, F x < 0 → T x = fc → Conn E t x
  shut : ∀ x y, x ≠ t → F x < 0 → T x = fc → E x y → 0 ≤ T y
  row : ∀ y, Q y → E t y → 0 ≤ T y
theorem FillIn.start {F : Nat → Int} {t : Nat} {fc : Int} (h0 : 0 ≤ fc) (hF : F t < 0) : FillIn E F t fc (fun _ => False) (fun x => if x = t then fc else F x) := by
  refine ⟨h0, fun x => ?_, if_pos rfl, fun x h1 h2 => ?_, fun x y hx h1 h2 => ?_, fun _ h => h.elim⟩
  · by_cases e : x = t
    · subst e; rw [if_pos rfl]; exact .inr ⟨hF, rfl⟩
    · rw [if_neg e]; exact .inl rfl
  · by_cases e : x = t
    · subst e; exact .refl _
    · rw [if_neg e] at h2; omega
  · rw [if_neg hx] at h2; omega
theorem FillIn.skip {F T : Nat → Int} {t y : Nat} {fc : Int} {Q Q' : Nat → Prop} (h : FillIn E F t fc Q T) (hQ : ∀ z, Q' z → Q z ∨ z = y) (hy : E t y → 0 ≤ T y) : FillIn E F t fc Q' T :=
  ⟨h.fc0, h.chg, h.self, h.con, h.shut, fun z hz he => by
    rcases hQ z hz with h1 | rfl
    · exact h.row z h1 he
    · exact hy he⟩
theorem FillIn.weaken {F T : Nat → Int} {t : Nat} {fc : Int} {Q Q' : Nat → Prop} (h : FillIn E F t fc Q T) (hQ : ∀ z, Q' z → Q z) : FillIn E F t fc Q' T :=
  ⟨h.fc0, h.chg, h.self, h.con, h.shut, fun z hz he => h.row z (hQ z hz) he⟩
theorem FillIn.next {F T T' : Nat → Int} {t y : Nat} {fc : Int} {Q Q' : Nat → Prop} (h : FillIn E F t fc Q T) (hQ : ∀ z, Q' z → Q z ∨ z = y) (hy : E t y) (d : Fill E T y fc T') : FillIn E F t fc Q' T' := by
  have h0 := h.fc0
  have up : ∀ z, 0 ≤ T z → 0 ≤ T' z := fun z hz => by rcases d.chg z with e | ⟨e, _⟩ <;> omega
  refine ⟨h0, fun x => ?_, ?_, fun x h1 h2 => ?_, fun x z hx h1 h2 he => ?_, fun z hz he => ?_⟩
  · rcases h.chg x with e | ⟨e1, e2⟩ <;> rcases d.chg x with e' | ⟨e3, e4⟩
    · exact .inl (e'.trans e)
    · exact .inr ⟨by omega, e4⟩
    · exact .inr ⟨e1, by omega⟩
    · exact .inr ⟨e1, e4⟩
  · rcases d.chg t with e | ⟨_, e⟩
    · rw [e]; exact h.self
    · exact e
  · by_cases e : T x < 0
    · exact (Conn.one hy).trans (d.con x e h2)
    · rcases h.chg x with e1 | ⟨_, e2⟩
      · omega
      · exact h.con x h1 e2
  · by_cases e : T x < 0
    · exact d.shut x z e h2 he
    · rcases h.chg x with e1 | ⟨_, e2⟩
      · omega
      · exact up z (h.shut x z hx h1 e2 he)
  · rcases hQ z hz with h1 | rfl
    · exact up z (h.row z h1 he)
    · rw [d.self]; exact h0
theorem FillIn.done {F T : Nat → Int} {t : Nat} {fc : Int} {Q : Nat → Prop} (h : FillIn E F t fc Q T) (hQ : ∀ y, E t y → Q y) : Fill E F t fc T :=
  ⟨h.chg, h.self, h.con, fun x y h1 h2 he => by
    by_cases e : x = t
    · subst e; exact h.row y (hQ y he) he
    · exact h.shut x y e h1 h2 he⟩
theorem un_put {F : Nat → Int} {t : Nat} {fc : Int} (ht : t < m) (h0 : 0 ≤ fc) (hF : F t < 0) : un m F = un m (fun x => if x = t then fc else F x) + 1 :=
  cntB_put ht (by simpa using hF) (by simp; omega) (fun x hx => by simp [hx])
theorem un_mono {F T : Nat → Int} (h : ∀ x, 0 ≤ F x → 0 ≤ T x) : un m T ≤ un m F := cntB_le_of fun x hx => by
  have := h x
  simp only [decide_eq_true_eq] at *
  omega
/-- The tiles of a number. -/
def numF (j : Int) (m : Nat) (F : Nat → Int) : Nat := cntB (fun x => decide (F x = j)) m
theorem num_fill {F T : Nat → Int} {fc : Int} (h : ∀ x, T x = F x ∨ (F x < 0 ∧ T x = fc)) (h0 : 0 ≤ fc) (hn : ∀ x, x < m → F x ≠ fc) : un m F = un m T + numF fc m T := by
  unfold un numF
  induction m with
  | zero => rfl
  | succ m ih =>
    show cntB _ m + _ = cntB _ m + _ + (cntB _ m + _)
    rw [ih (fun x hx => hn x (by omega))]
    have h1 := hn m (by omega)
    rcases h m with e | ⟨e1, e2⟩
    · simp only [e, decide_eq_true_eq, if_neg h1]
      omega
    · have : ¬ fc < 0 := by omega
      simp only [e2, decide_eq_true_eq, if_pos e1, if_neg this, if_pos]
      omega
theorem num_keep {F T : Nat → Int} {fc j : Int} (h : ∀ x, T x = F x ∨ (F x < 0 ∧ T x = fc)) (h0 : 0 ≤ j) (hj : j ≠ fc) : numF j m T = numF j m F := cntB_congr fun x _ => by
  rcases h x with e | ⟨e1, e2⟩
  · rw [e]
  · rw [e2, decide_eq_false (by omega), decide_eq_false (by omega)]
/-- The scan of the tiles. -/
structure Scan (E : Nat → Nat → Prop) (m t : Nat) (F : Nat → Int) (c : Nat) : Prop where
  dom : ∀ x, x < m → (0 ≤ F x ↔ ∃ u, u < t ∧ Conn E x u)
  same : ∀ x y, x < m → y < m → Conn E x y → F x = F y
  new : ∀ x, x < t → (∀ u, u < x → ¬ Conn E x u) → F x = (top (fun y => (F y).toNat) x : Nat)
  cnt : top (fun y => (F y).toNat) t = c
  lt : ∀ x, F x < (c : Int)
theorem Scan.start : Scan E m 0 (fun _ => -1) 0 := ⟨fun x _ => ⟨fun h => by simp at h, fun ⟨u, h, _⟩ => by omega⟩, fun _ _ _ _ _ => rfl, fun _ h => by omega, rfl, fun _ => by simp⟩
theorem Scan.skip {t c : Nat} {F : Nat → Int} (h : Scan E m t F c) (ht : t < m) (h0 : 0 ≤ F t) : Scan E m (t + 1) F c := by
  obtain ⟨u, hu, hc⟩ := (h.dom t ht).1 h0
  refine ⟨fun x hx => ⟨fun hf => ?_, fun ⟨v, hv, hcv⟩ => ?_⟩, h.same, fun x hx hn => ?_, ?_, h.lt⟩
  · obtain ⟨v, hv, hcv⟩ := (h.dom x hx).1 hf
    exact ⟨v, by omega, hcv⟩
  · by_cases e : v = t
    · subst e; exact (h.dom x hx).2 ⟨u, hu, hcv.trans hc⟩
    · exact (h.dom x hx).2 ⟨v, by omega, hcv⟩
  · by_cases e : x = t
    · subst e; exact absurd hc (hn u hu)
    · exact h.new x (by omega) hn
  · show max (top _ t) ((F t).toNat + 1) = c
    have h1 := h.lt t
    rw [h.cnt]; omega
theorem Scan.fill {t c : Nat} {F T : Nat → Int} (h : Scan E m t F c) (hs : ∀ a b, E a b → E b a) (hE : ∀ a b, E a b → a < m ∧ b < m) (ht : t < m) (h0 : F t < 0) (d : Fill E F t c T) : Scan E m (t + 1) T (c + 1) := by
  have hin : ∀ x, Conn E t x → x < m := by
    intro x hx
    cases hx with
    | refl => exact ht
    | step _ e => exact (hE _ _ e).2
  have hall : ∀ x, Conn E t x → T x = c := by
    intro x hx
    induction hx with
    | refl => exact d.self
    | step h1 e ih =>
      rename_i u v
      have hu : F u < 0 := by rw [← h.same t u ht (hin _ h1) h1]; exact h0
      have hv : F v < 0 := by rw [← h.same t v ht (hin _ (.step h1 e)) (.step h1 e)]; exact h0
      have := d.shut u v hu ih e
      rcases d.chg v with e2 | ⟨_, e2⟩
      · omega
      · exact e2
  have hold : ∀ x, ¬ Conn E t x → T x = F x := by
    intro x hx
    rcases d.chg x with e | ⟨e1, e2⟩
    · exact e
    · exact absurd (d.con x e1 e2) hx
  have htop : ∀ x, x ≤ t → top (fun y => (T y).toNat) x = top (fun y => (F y).toNat) x := by
    intro x hx
    refine top_congr fun y hy => ?_
    show (T y).toNat = (F y).toNat
    by_cases hc : Conn E t y
    · exact absurd ((h.dom t ht).2 ⟨y, by omega, hc⟩) (by omega)
    · rw [hold y hc]
  refine ⟨fun x hx => ⟨fun hf => ?_, fun ⟨v, hv, hcv⟩ => ?_⟩, fun x y hx hy hc => ?_, fun x hx hn => ?_, ?_, fun x => ?_⟩
  · by_cases hc : Conn E t x
    · exact ⟨t, by omega, hc.symm hs⟩
    · rw [hold x hc] at hf
      obtain ⟨v, hv, hcv⟩ := (h.dom x hx).1 hf
      exact ⟨v, by omega, hcv⟩
  · by_cases e : v = t
    · subst e; rw [hall x (hcv.symm hs)]; omega
    · have := (h.dom x hx).2 ⟨v, by omega, hcv⟩
      rcases d.chg x with e | ⟨e1, e2⟩ <;> omega
  · by_cases hx' : Conn E t x
    · rw [hall x hx', hall y (hx'.trans hc)]
    · rw [hold x hx', hold y (fun hy' => hx' (hy'.trans (hc.symm hs)))]
      exact h.same x y hx hy hc
  · rw [htop x (by omega)]
    by_cases e : x = t
    · subst e; rw [d.self, h.cnt]
    · rw [← h.new x (by omega) hn]
      refine hold x fun hc => ?_
      exact absurd ((h.dom t ht).2 ⟨x, by omega, hc⟩) (by omega)
  · show max (top _ t) ((T t).toNat + 1) = c + 1
    rw [htop t (Nat.le_refl _), h.cnt, d.self]
    simp
  · have := h.lt x
    rcases d.chg x with e | ⟨e1, e2⟩ <;> omega
theorem Scan.done {c : Nat} {F : Nat → Int} (h : Scan E m m F c) : RG E m (fun y => (F y).toNat) :=
  ⟨fun t u ht hu hc => by show (F t).toNat = (F u).toNat; rw [h.same t u ht hu hc], fun t ht hn => by show (F t).toNat = _; rw [h.new t ht hn]; simp⟩
theorem Scan.pos {c : Nat} {F : Nat → Int} (h : Scan E m m F c) {x : Nat} (hx : x < m) : 0 ≤ F x := (h.dom x hx).2 ⟨x, hx, .refl x⟩
end
end Go.Proofs.Yteojoifhmaoiaaa
