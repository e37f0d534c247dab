/-
  Contracts of l06Joined and l06Faces in the reference.
  By an AI agent.
-/
import Derived.Test.YteojoifhmaoiaaaTilJ
import Derived.Deep.DeepCutAuto
namespace Go.Proofs.Yteojoifhmaoiaaa
open Go.ChangeShapes Go.WideShapes Go.ChangeAt Go.RowKit Go.Joins Go.Deep
set_option maxRecDepth 100000
set_option linter.unusedVariables false

theorem infoIntG : (Try.prog.info? 3).map (fun i => (i.zero, i.size, i.bytes)) = some (some (.int .i64 0), 1, 8) := by kernel_rfl
theorem countE (s : ByteArray) (i : Nat) (w : World) (hs : s.size ≤ 1048576) (hi : i ≤ s.size) :
    Calls Try.prog 92 #[.string (s.extract 0 i), .int .u8 102] w fun e w' => e = .returned (.int .i64 (cnt s 102 i : Nat)) ∧ w = w' := by
  have h1 : (s.extract 0 i).size = i := by rw [ByteArray.size_extract]; omega
  have h := l02Count_any (s.extract 0 i) 102 102 w (by omega) rfl
  rw [h1, cntExtract] at h
  exact h
theorem l06Joined_any (d f : Int) (a : Option Addr) (n c N : Nat) (ss : List ByteArray) (k i : Nat) (w : World) (hC : Cd d f n N ss) (hR : SlR w a n (sc ss)) (hk : k + 1 < n) (hi : i < N) :
    Calls Try.prog 71 #[.agg #[.int .i64 d, .int .i64 f, .slice a n c], .int .i64 k, .int .i64 i, .int .i64 i] w fun e w' => e = .returned (.bool (sameSt (rowS ss k) (rowS ss (k + 1)) i)) ∧ Below w.heap.size w w' := by
  have hb := hC.bds
  have hN := hb.2.2.2
  have hn := hb.2.2.1
  have HB0 := Lib.hid (Below.box w (.cells #[.int .i64 d, .int .i64 f, .slice a n c] 26 (0, 0)))
  obtain ⟨g, rfl, hr⟩ := (hR.below HB0.out).row (by omega)
  have c0 := hr.cell (i := k) (by omega)
  have c1 := hr.cell (i := k + 1) (by omega)
  have z0 := hC.size (k := k) (by omega)
  have z1 := hC.size (k := k + 1) (by omega)
  unfold sc at c0 c1
  unfold rowS at z0 z1 ⊢
  generalize ss.getD k ByteArray.empty = s at c0 z0
  generalize ss.getD (k + 1) ByteArray.empty = t at c1 z1
  have i0 : (0 : Int) ≤ (k : Int) := Int.natCast_nonneg _
  have i1 : (k : Int) + 1 < (n : Int) := by omega
  have i2 : (0 : Int) ≤ (i : Int) := Int.natCast_nonneg _
  have i3 : (i : Int) < (s.size : Int) := by omega
  have i4 : (i : Int) < (t.size : Int) := by omega
  have i5 : (i : Int) ≤ (s.size : Int) := by omega
  have i6 : (i : Int) ≤ (t.size : Int) := by omega
  have e1 : IntKind.i64.wrap ((k : Int) + 1) = (k : Int) + 1 := IntWalk.i64_in _ (by omega)
  have hs : i < s.size := by omega
  have ht : i < t.size := by omega
  have q1 : ((i : Int) == (i : Int)) = true := by simp
  clear hC hR hr hb
  by_cases h : s[i] = t[i]
  · have b1 := byt_t h
    have h1 := h
    rw [← bt_at hs, ← bt_at ht] at h1
    clear h
    by_cases h2 : cnt s 102 i = cnt t 102 i
    · have HV : Hid (sameSt s t i = true) := Lib.hid (by unfold sameSt; rw [decide_eq_true h1, decide_eq_true h2]; rfl)
      have e2 : (((cnt s 102 i : Nat) : Int) == ((cnt t 102 i : Nat) : Int)) = true := by rw [h2]; simp
      clear h2 h1
      go_enter Try.func71, Try.ntmps71
      go_wp2
      go_quiet ((go_at_call 92; exact quiet_eq (countE _ _ _ (by omega) (by omega))))
      go_wp2
      go_ret
      exact ⟨ret_bool HV.out.symm, below_drewN HB0.out _⟩
    · have HV : Hid (sameSt s t i = false) := Lib.hid (by unfold sameSt; rw [decide_eq_false h2, Bool.and_false])
      have e2 : (((cnt s 102 i : Nat) : Int) == ((cnt t 102 i : Nat) : Int)) = false := by simpa using (fun e : ((cnt s 102 i : Nat) : Int) = ((cnt t 102 i : Nat) : Int) => h2 (by omega))
      clear h2 h1
      go_enter Try.func71, Try.ntmps71
      go_wp2
      go_quiet ((go_at_call 92; exact quiet_eq (countE _ _ _ (by omega) (by omega))))
      go_wp2
      go_ret
      exact ⟨ret_bool HV.out.symm, below_drewN HB0.out _⟩
  · have b1 := byt_f h
    have h1 : ¬ bt s i = bt t i := by rw [bt_at hs, bt_at ht]; exact h
    have HV : Hid (sameSt s t i = false) := Lib.hid (by unfold sameSt; rw [decide_eq_false h1, Bool.false_and])
    clear h h1
    go_enter Try.func71, Try.ntmps71
    go_wp2
    go_quiet ((go_at_call 92; exact quiet_eq (countE _ _ _ (by omega) (by omega))))
    go_wp2
    go_ret
    exact ⟨ret_bool HV.out.symm, below_drewN HB0.out _⟩
/-! ### The links that are done -/
def Pr (ss : List ByteArray) (N t s a b : Nat) : Prop := (hJ ss N a b ∧ (a < t ∨ (a = t ∧ 0 < s))) ∨ (vJ ss N a b ∧ (a < t ∨ (a = t ∧ 1 < s)))
section
variable {ss : List ByteArray} {N m t u : Nat} {G : Nat → Nat}
theorem gi_start : GI (TE ss N m) m (Pr ss N 0 0) (fun x => x) := GI.start.mono fun a b _ _ h => by
  left
  unfold Pr at h
  omega
theorem gi_h (h : GI (TE ss N m) m (Pr ss N t 0) G) (hj : ∀ b, b < m → hJ ss N t b → G t = G b) : GI (TE ss N m) m (Pr ss N t 1) G := h.mono fun a b _ hb hp => by
  rcases hp with ⟨h1, h2⟩ | ⟨h1, h2⟩
  · by_cases e : a = t
    · subst e; exact .inr (hj b hb h1)
    · exact .inl (.inl ⟨h1, by omega⟩)
  · exact .inl (.inr ⟨h1, by omega⟩)
theorem gi_v (h : GI (TE ss N m) m (Pr ss N t 1) G) (hj : ∀ b, b < m → vJ ss N t b → G t = G b) : GI (TE ss N m) m (Pr ss N t 2) G := h.mono fun a b _ hb hp => by
  rcases hp with ⟨h1, h2⟩ | ⟨h1, h2⟩
  · exact .inl (.inl ⟨h1, by omega⟩)
  · by_cases e : a = t
    · subst e; exact .inr (hj b hb h1)
    · exact .inl (.inr ⟨h1, by omega⟩)
theorem gi_next (h : GI (TE ss N m) m (Pr ss N t 2) G) : GI (TE ss N m) m (Pr ss N (t + 1) 0) G := h.mono fun a b _ _ hp => by
  left
  rcases hp with ⟨h1, h2⟩ | ⟨h1, h2⟩
  · exact .inl ⟨h1, by omega⟩
  · exact .inr ⟨h1, by omega⟩
theorem gi_all (a b : Nat) (h : TE ss N m a b) : a < m ∧ b < m ∧ (Pr ss N m 0 a b ∨ Pr ss N m 0 b a) := by
  obtain ⟨h1, h2, h3⟩ := h
  refine ⟨h1, h2, ?_⟩
  rcases h3 with h | h | h | h
  · exact .inl (.inl ⟨h, .inl h1⟩)
  · exact .inl (.inr ⟨h, .inl h1⟩)
  · exact .inr (.inl ⟨h, .inl h2⟩)
  · exact .inr (.inr ⟨h, .inl h2⟩)
end
/-- The tiles that step s of tile t links it to. -/
def lJ (ss : List ByteArray) (N s t z : Nat) : Prop := if s = 0 then hJ ss N t z else vJ ss N t z
theorem gi_s {ss : List ByteArray} {N m t s : Nat} {G : Nat → Nat} (hs : s < 2) (h : GI (TE ss N m) m (Pr ss N t s) G) (hj : ∀ b, b < m → lJ ss N s t b → G t = G b) : GI (TE ss N m) m (Pr ss N t (s + 1)) G := by
  have h3 : s = 0 ∨ s = 1 := by omega
  rcases h3 with rfl | rfl
  · exact gi_h h (fun b hb hx => hj b hb (by unfold lJ; rw [if_pos rfl]; exact hx))
  · exact gi_v h (fun b hb hx => hj b hb (by unfold lJ; rw [if_neg (by omega)]; exact hx))
/-- What the first statement of a round says: tile i of row q bears the step of the tile before it. -/
def jn0 (ss : List ByteArray) (s q i : Nat) : Bool := decide (s = 0) && decide (0 < i) && decide (bt (rowS ss q) i = bt (rowS ss q) (i - 1))
/-- What both tests of a round say: whether tile t is linked, and to which. -/
def LK (ss : List ByteArray) (N k s t : Nat) (jn : Bool) (u : Int) : Prop :=
  (jn = false → ∀ z, z < k → ¬ lJ ss N s t z) ∧ (jn = true → ∃ u' : Nat, u = (u' : Int) ∧ u' < k ∧ TE ss N k t u' ∧ ∀ z, z < k → lJ ss N s t z → z = u')
theorem lk_0 {ss : List ByteArray} {N k t : Nat} (ht : t < k) : LK ss N k 0 t (jn0 ss 0 (t / N) (t % N)) ((t : Int) - 1) := by
  unfold LK jn0
  by_cases h0 : t % N = 0
  · rw [decide_eq_false (p := 0 < t % N) (by omega), Bool.and_false, Bool.false_and]
    refine ⟨fun _ z _ h => ?_, fun h => by simp at h⟩
    unfold lJ at h
    rw [if_pos rfl] at h
    exact h.2.1 h0
  · rw [decide_eq_true (p := 0 < t % N) (by omega), decide_eq_true (rfl : 0 = 0), Bool.true_and, Bool.true_and]
    refine ⟨fun h z _ hz => ?_, fun h => ?_⟩
    · unfold lJ at hz
      rw [if_pos rfl] at hz
      exact of_decide_eq_false h hz.2.2
    · have ht0 : 0 < t := by
        rcases Nat.eq_zero_or_pos t with e | e
        · subst e; rw [Nat.zero_mod] at h0; exact absurd rfl h0
        · exact e
      refine ⟨t - 1, by omega, by omega, ⟨ht, by omega, .inl ⟨by omega, h0, of_decide_eq_true h⟩⟩, fun z _ hz => ?_⟩
      unfold lJ at hz
      rw [if_pos rfl] at hz
      have := hz.1
      omega
theorem lk_z {ss : List ByteArray} {N k t q i : Nat} {u : Int} (ht : t < N) : LK ss N k 1 t (jn0 ss 1 q i) u := by
  unfold LK jn0
  rw [decide_eq_false (p := 1 = 0) (by omega), Bool.false_and, Bool.false_and]
  refine ⟨fun _ z _ h => ?_, fun h => by simp at h⟩
  unfold lJ at h
  rw [if_neg (by omega)] at h
  have := h.1
  omega
theorem lk_1 {ss : List ByteArray} {N k t q i u : Nat} (ht : t < k) (hu : t = u + N) (hq : t / N = q + 1) (hi : i = t % N) : LK ss N k 1 t (sameSt (rowS ss q) (rowS ss (q + 1)) i) (u : Int) := by
  have hs : sameSt (rowS ss q) (rowS ss (q + 1)) i = sameSt (rowS ss (t / N)) (rowS ss (t / N - 1)) (t % N) := by
    rw [hq, hi]
    unfold sameSt
    rw [show q + 1 - 1 = q by omega]
    simp only [eq_comm]
  rw [hs]
  refine ⟨fun h z _ hz => ?_, fun h => ⟨u, rfl, by omega, ⟨ht, by omega, .inr (.inl ⟨hu.symm, h⟩)⟩, fun z _ hz => ?_⟩⟩
  · unfold lJ at hz
    rw [if_neg (by omega)] at hz
    rw [hz.2] at h
    simp at h
  · unfold lJ at hz
    rw [if_neg (by omega)] at hz
    have := hz.1
    omega
theorem GI.join {ss : List ByteArray} {N m t u : Nat} {P : Nat → Nat → Prop} {g : Nat → Nat} (h : GI (TE ss N m) m P g) (ht : t < m) (hu : u < m) (he : TE ss N m t u) (hlt : g u < g t) :
    GI (TE ss N m) m P (fun x => if g x = g t then g u else g x) := by
  have h1 := h.le t ht
  have h2 := h.le u hu
  refine h.union (a := g u) (b := g t) (by omega) (by omega) (h.idem u hu) (h.idem t ht) hlt (fun _ _ h => TE.symm h) ?_
  exact ((h.snd t ht).symm (fun _ _ h => TE.symm h)).trans ((Conn.one he).trans (h.snd u hu))
def nc (G : Nat → Nat) (t : Nat) : Value := .int .i64 (G t : Nat)
theorem nc_set {w : World} {g m x v : Nat} {G : Nat → Nat} (h : Row w g m (nc G)) : Row (w.setCell ⟨g, x, none⟩ (.int .i64 (v : Nat))) g m (nc (fun y => if y = x then v else G y)) := (h.set x _).congr fun y _ => by
  unfold nc
  by_cases e : y = x
  · subst e; simp
  · simp [e]
/-- The reference's faces. -/
def FaceSP (d f : Int) (n N : Nat) (ss : List ByteArray) (w : World) (e : Ending) (w' : World) : Prop :=
  ∃ (g : Nat) (F : Nat → Nat), e = .returned (.slice (some ⟨g, 0, none⟩) (n * N) (n * N)) ∧ w.heap.size ≤ g ∧ Row w' g (n * N) (nc F) ∧ RG (TE ss N (n * N)) (n * N) F ∧ Below w.heap.size w w'
set_option maxHeartbeats 16000000 in
theorem l06Faces_any (d f : Int) (a : Option Addr) (n c N : Nat) (ss : List ByteArray) (w : World) (hC : Cd d f n N ss) (hR : SlR w a n (sc ss)) :
    Calls Try.prog 48 #[.agg #[.int .i64 d, .int .i64 f, .slice a n c]] w (FaceSP d f n N ss w) := by
  obtain ⟨j0, hi0, hz0, hz1, hz2⟩ := info_parts infoIntG
  have hb := hC.bds
  have hn := hb.2.2.1
  have hn1 := hb.2.1
  have hN := hb.2.2.2
  have hm160 : n * N ≤ 160 := Nat.mul_le_mul hn hN.2
  have HC := Lib.hid hC
  obtain ⟨ga, rfl, hRw⟩ := hR.row (by omega)
  have HR := Lib.hid hR
  have HRW := Lib.hid hRw
  have hgaw := hRw.lt
  clear hRw
  have s1 : IntKind.i64.wrap (d + f) = (N : Int) := by rw [hC.sum]; exact IntWalk.i64_in _ (by omega)
  have s2 : IntKind.i64.wrap ((n : Int) * (N : Int)) = ((n * N : Nat) : Int) := by rw [← Int.natCast_mul]; exact IntWalk.i64_in _ (by omega)
  clear hb hC hR
  generalize hM : n * N = M at *
  have HM := Lib.hid hM
  clear hM
  go_enter Try.func48, Try.ntmps48
  have hbx : Row (w.alloc (.cells #[.int .i64 d, .int .i64 f, .slice (some ⟨ga, 0, none⟩) n c] 26 (0, 0))) w.heap.size 3 (fun j => #[Value.int .i64 d, .int .i64 f, .slice (some ⟨ga, 0, none⟩) n c].getD j undef) := Row.of_new w _ _
  have sz1 : (w.alloc (.cells #[.int .i64 d, .int .i64 f, .slice (some ⟨ga, 0, none⟩) n c] 26 (0, 0))).heap.size = w.heap.size + 1 := by simp
  have O1 : Own1 ((w.alloc (.cells #[.int .i64 d, .int .i64 f, .slice (some ⟨ga, 0, none⟩) n c] 26 (0, 0))).alloc (.cells #[] 3 (0, 0))) (w.heap.size + 1) 3 (w.heap.size + 1) 0 0 [] := by
    have := (Own1.empty (w.alloc (.cells #[.int .i64 d, .int .i64 f, .slice (some ⟨ga, 0, none⟩) n c] 26 (0, 0))) 3)
    rw [sz1] at this
    exact this
  have sz2 : ((w.alloc (.cells #[.int .i64 d, .int .i64 f, .slice (some ⟨ga, 0, none⟩) n c] 26 (0, 0))).alloc (.cells #[] 3 (0, 0))).heap.size = w.heap.size + 2 := by simp
  have hbz := (Below.box w (.cells #[.int .i64 d, .int .i64 f, .slice (some ⟨ga, 0, none⟩) n c] 26 (0, 0))).alloc (o := .cells #[] 3 (0, 0)) (by simp)
  have HO1 := Lib.hid O1
  have HBX := Lib.hid (hbx.alloc (.cells #[] 3 (0, 0)))
  have HBZ := Lib.hid hbz
  clear O1 hbx hbz
  go_wp2
  clear sz1
  generalize (w.alloc (.cells #[.int .i64 d, .int .i64 f, .slice (some ⟨ga, 0, none⟩) n c] 26 (0, 0))).alloc (.cells #[] 3 (0, 0)) = W at *
  generalize hbb : w.heap.size = b at *
  have HBB := Lib.hid hbb
  have HGA : Hid (ga < b) := Lib.hid hgaw
  clear hgaw
  have HW2 := Lib.hid sz2
  clear hbb
  go_loopw [5, 6] (fun v x wr => ∃ (k g cp : Nat), k ≤ M ∧ x = .int .i64 k ∧ v = .slice (some ⟨g, 0, none⟩) k cp ∧ Own1 wr (b + 1) 3 g k cp ((List.range k).map (fun (t : Nat) => Value.int .i64 (t : Int))) ∧ (g = b + 1 ∨ b + 2 ≤ g) ∧ OnlyB (b + 1) W wr) (fun _ x _ => M - (intOf x).toNat)
  case atStart => exact ⟨0, b + 1, 0, Nat.zero_le _, rfl, rfl, HO1.out, .inl rfl, OnlyB.refl _ _⟩
  case round =>
    obtain ⟨k, g, cp, hk, rfl, rfl, h1, h3, h2⟩ := hrel
    have H1 := Lib.hid h1
    have H2 := Lib.hid h2
    have H3 := Lib.hid h3
    clear h1 h2 h3
    have hszw := H2.out.size
    by_cases hlt : k < M
    · have hgl := H1.out.lt
      have HENS : Hid ((List.range (k + 1)).map (fun (t : Nat) => Value.int .i64 (t : Int)) = (List.range k).map (fun (t : Nat) => Value.int .i64 (t : Int)) ++ [.int .i64 (k : Int)]) := Lib.hid (by rw [List.range_succ, List.map_append]; rfl)
      go_wp2_with (at_builtin; refine append_one rfl _ _ 28 rfl Try.underlying28 infoIntG rfl (by omega) rfl (H1.out.alloc _) (by omega) rfl (new_cell (by simp)) rfl ?_; intro g' c' w5 o5 oo5 l5; have O5 := Lib.hid o5; have OO5 := Lib.hid oo5; have L5 := Lib.hid l5; clear o5 oo5 l5)
      go_roundw
      case rel =>
        have hsb : (wr.alloc (.cells #[.int .i64 (k : Int)] 3 (0, 0))).heap.size = wr.heap.size + 1 := by simp
        have h2 := HW2.out
        refine ⟨k + 1, g', c', by omega, by go_num, rfl, by rw [HENS.out]; exact O5.out, ?_, ?_⟩
        · rcases L5.out with h | h
          · subst h; exact H3.out
          · rw [hsb] at h; omega
        · rcases H3.out with h | h
          · subst h; exact (H2.out.below (Below.box wr _)).then OO5.out
          · exact (H2.out.below (Below.box wr _)).newer OO5.out (by omega)
      case measure => simp [intOf]; omega
    · have hk' : k = M := by omega
      subst hk'
      have hgl := H1.out.lt
      have HG0 : Hid (Row wr g k (nc (fun x => x))) := Lib.hid (H1.out.row.congr (fun i hi => by simp [nc, List.getD, hi]))
      have HBX0 := Lib.hid (H2.out.row HBX.out (by omega))
      have HBW := Lib.hid (HBZ.out.trans (H2.out.toBelow (B := b) (by omega) (by omega)))
      have HGI0 : Hid (GI (TE ss N k) k (Pr ss N 0 0) (fun x => x)) := Lib.hid gi_start
      have HGB : Hid (b < g) := Lib.hid (by omega)
      clear H1 H2 H3 HO1 HBX HBZ HW2 sz2 hszw hgl
      go_wp2
      go_loopw [7] (fun x wo => ∃ (t : Nat) (G : Nat → Nat), t ≤ k ∧ x = .int .i64 t ∧ GI (TE ss N k) k (Pr ss N t 0) G ∧ Row wo g k (nc G) ∧ Row wo b 3 (fun j => #[Value.int .i64 d, .int .i64 f, .slice (some ⟨ga, 0, none⟩) n c].getD j undef) ∧ Below b w wo) (fun x _ => k - (intOf x).toNat)
      case atStart => exact ⟨0, _, Nat.zero_le _, rfl, HGI0.out, HG0.out, HBX0.out, HBW.out⟩
      case round =>
        obtain ⟨t, G, ht, rfl, g1, g2, g3, g4⟩ := hrel
        rename World => wo
        have G1 := Lib.hid g1
        have G2 := Lib.hid g2
        have G3 := Lib.hid g3
        have G4 := Lib.hid g4
        clear g1 g2 g3 g4
        by_cases hlk : t < k
        · have htq := tile_of (n := n) (N := N) (t := t) (by rw [HM.out]; exact hlk)
          obtain ⟨q, i, hqi⟩ : ∃ q i, q = t / N ∧ i = t % N := ⟨_, _, rfl, rfl⟩
          rw [← hqi.1, ← hqi.2] at htq
          have HQI := Lib.hid hqi
          have HTQ := Lib.hid htq.2.2
          have hq := htq.1
          have hi := htq.2.1
          clear htq hqi
          have s3 : wrap64 ((t : Int) / (N : Int)) = (q : Int) := by rw [show (t : Int) / (N : Int) = (q : Int) by rw [HQI.out.1, Int.natCast_ediv]]; exact IntWalk.wrap64_in (q : Int) (by omega)
          have s4 : (t : Int) % (N : Int) = (i : Int) := by rw [HQI.out.2, Int.natCast_emod]
          have n0 : ((N : Int) == 0) = false := by simp; omega
          go_wp2
          rw [s3, s4]
          clear s3 s4 n0
          go_loopw [10] (fun x wi => ∃ (s : Nat) (G : Nat → Nat), s ≤ 2 ∧ x = .int .i64 s ∧ GI (TE ss N k) k (Pr ss N t s) G ∧ Row wi g k (nc G) ∧ Row wi b 3 (fun j => #[Value.int .i64 d, .int .i64 f, .slice (some ⟨ga, 0, none⟩) n c].getD j undef) ∧ Below b w wi) (fun x _ => 2 - (intOf x).toNat)
          case atStart => exact ⟨0, G, by omega, rfl, G1.out, G2.out, G3.out, G4.out⟩
          case round =>
            clear G1 G2 G3 G4
            obtain ⟨s, G, hs, rfl, g1, g2, g3, g4⟩ := hrel
            rename World => wi
            have G1 := Lib.hid g1
            have G2 := Lib.hid g2
            have G3 := Lib.hid g3
            have G4 := Lib.hid g4
            clear g1 g2 g3 g4
            by_cases hs2 : s < 2
            · have t2 : (s : Int) < 2 := by omega
              have e2 : IntKind.i64.wrap ((t : Int) - 1) = (t : Int) - 1 := IntWalk.i64_in _ (by omega)
              have k0 : (0 : Int) ≤ (q : Int) := by omega
              have k1 : (q : Int) < (n : Int) := by omega
              go_upto_region 17 with (fail)
              clear t2
              go_cut [12] (fun v wx => v = .bool (jn0 ss s q i) ∧ Row wx g k (nc G) ∧ Row wx b 3 (fun j => #[Value.int .i64 d, .int .i64 f, .slice (some ⟨ga, 0, none⟩) n c].getD j undef) ∧ Below b w wx)
              case first =>
                by_cases h0 : s = 0
                · have HS := Lib.hid h0
                  have t0 : ((s : Int) == 0) = true := by simp; exact h0
                  clear h0
                  by_cases hi0' : i = 0
                  · have p0 : decide ((i : Int) > 0) = false := decide_eq_false (by omega)
                    have p0n : decide (0 < i) = false := decide_eq_false (by omega)
                    have hJN : jn0 ss s q i = false := by unfold jn0; rw [decide_eq_false (p := 0 < i) (by omega), Bool.and_false]; rfl
                    have HJN := Lib.hid hJN
                    clear hJN hi0'
                    go_quiet (fail)
                    go_wp2_with (fail)
                    go_meet
                    case rel => exact ⟨congrArg Value.bool HJN.out.symm, G2.out.of_heap rfl, G3.out.of_heap rfl, below_drewN G4.out _⟩
                  · have p0 : decide ((i : Int) > 0) = true := decide_eq_true (by omega)
                    have p0n : 0 < i := by omega
                    have hr := HRW.out.below G4.out HGA.out
                    have c0 := hr.cell hq
                    have hsz := HC.out.size hq
                    have HJ0 : Hid (jn0 ss s q i = (decide (s = 0) && decide (0 < i) && decide (bt (rowS ss q) i = bt (rowS ss q) (i - 1)))) := Lib.hid rfl
                    unfold sc at c0
                    unfold rowS at hsz HJ0
                    generalize ss.getD q ByteArray.empty = S at c0 hsz HJ0
                    have b2 : wi.cell? ⟨b, 2, none⟩ = some (.slice (some ⟨ga, 0, none⟩) n c) := G3.out.cell (i := 2) (by omega)
                    have hiS : i < S.size := by omega
                    have hiS1 : i - 1 < S.size := by omega
                    have j1 : (i : Int) < (S.size : Int) := by omega
                    have j0' : (0 : Int) ≤ (i : Int) := by omega
                    have e1 : IntKind.i64.wrap ((i : Int) - 1) = (i : Int) - 1 := IntWalk.i64_in _ (by omega)
                    clear hr hsz
                    by_cases hi1 : i = 1
                    · subst hi1
                      clear p0n p0 e1 j1 j0' hi0'
                      have p0 : decide (((1 : Nat) : Int) > 0) = true := by decide
                      have m2 : (0 : Int) < (S.size : Int) := by omega
                      have m3 : (1 : Int) < (S.size : Int) := by omega
                      have hS0 : 0 < S.size := by omega
                      by_cases hbb : S[1] = S[0]
                      · have bb := byt_t hbb
                        have hJN : jn0 ss s q 1 = true := by rw [HJ0.out, bt_at (by omega), bt_at (by omega), decide_eq_true hbb, decide_eq_true HS.out, decide_eq_true (show 0 < 1 by omega)]; rfl
                        have HJN := Lib.hid hJN
                        clear hbb hJN
                        go_quiet (fail)
                        go_wp2_with (fail)
                        go_meet
                        case rel => exact ⟨congrArg Value.bool HJN.out.symm, G2.out.of_heap rfl, G3.out.of_heap rfl, below_drewN G4.out _⟩
                      · have bb := byt_f hbb
                        have hJN : jn0 ss s q 1 = false := by rw [HJ0.out, bt_at (by omega), bt_at (by omega), decide_eq_false hbb, Bool.and_false]
                        have HJN := Lib.hid hJN
                        clear hbb hJN
                        go_quiet (fail)
                        go_wp2_with (fail)
                        go_meet
                        case rel => exact ⟨congrArg Value.bool HJN.out.symm, G2.out.of_heap rfl, G3.out.of_heap rfl, below_drewN G4.out _⟩
                    · have m0 : (0 : Int) < (i : Int) - 1 := by omega
                      have m2 : (i : Int) - 1 < (S.size : Int) := by omega
                      have m4 : (0 : Int) ≤ (i : Int) - 1 := by omega
                      have m5 : (1 : Int) ≤ (i : Int) := by omega
                      have m6 : ¬ (i : Int) - 1 < 0 := by omega
                      have m3 : ((i : Int) - 1).toNat = i - 1 := by omega
                      clear hi1 hi0'
                      by_cases hbb : S[i] = S[i - 1]
                      · have bb := byt_t hbb
                        have hJN : jn0 ss s q i = true := by rw [HJ0.out, bt_at (by omega), bt_at (by omega), decide_eq_true hbb, decide_eq_true HS.out, decide_eq_true (show 0 < i by omega)]; rfl
                        have HJN := Lib.hid hJN
                        clear hbb hJN
                        go_quiet (fail)
                        go_wp2_with (fail)
                        go_meet
                        case rel => exact ⟨congrArg Value.bool HJN.out.symm, G2.out.of_heap rfl, G3.out.of_heap rfl, below_drewN G4.out _⟩
                      · have bb := byt_f hbb
                        have hJN : jn0 ss s q i = false := by rw [HJ0.out, bt_at (by omega), bt_at (by omega), decide_eq_false hbb, Bool.and_false]
                        have HJN := Lib.hid hJN
                        clear hbb hJN
                        go_quiet (fail)
                        go_wp2_with (fail)
                        go_meet
                        case rel => exact ⟨congrArg Value.bool HJN.out.symm, G2.out.of_heap rfl, G3.out.of_heap rfl, below_drewN G4.out _⟩
                · have t0 : ((s : Int) == 0) = false := by simp; omega
                  have hJN : jn0 ss s q i = false := by unfold jn0; rw [decide_eq_false h0]; rfl
                  have HJN := Lib.hid hJN
                  clear hJN h0
                  go_quiet (fail)
                  go_wp2_with (fail)
                  go_meet
                  case rel => exact ⟨congrArg Value.bool HJN.out.symm, G2.out.of_heap rfl, G3.out.of_heap rfl, below_drewN G4.out _⟩
              case rest =>
                rename_i nxt
                refine nxt _ _ ?_
                refine wp_seq_k (fun K2 nxt2 => ?_)
                obtain ⟨rfl, g2, g3, g4⟩ := hcut
                rename World => wj
                clear G2 G3 G4
                have G2 := Lib.hid g2
                have G3 := Lib.hid g3
                have G4 := Lib.hid g4
                clear g2 g3 g4
                go_cut [11, 12] (fun vu v wx => ∃ (jn : Bool) (ui : Int), vu = .int .i64 ui ∧ v = .bool jn ∧ LK ss N k s t jn ui ∧ Row wx g k (nc G) ∧ Row wx b 3 (fun j => #[Value.int .i64 d, .int .i64 f, .slice (some ⟨ga, 0, none⟩) n c].getD j undef) ∧ Below b w wx)
                case first =>
                  by_cases h0 : s = 0
                  · have t1 : ((s : Int) == 1) = false := by simp; omega
                    have HLK : Hid (LK ss N k s t (jn0 ss s q i) ((t : Int) - 1)) := Lib.hid (by rw [h0, HQI.out.1, HQI.out.2]; exact lk_0 hlk)
                    clear h0
                    go_wp2_with (fail)
                    go_meet
                    case rel => exact ⟨jn0 ss s q i, (t : Int) - 1, rfl, rfl, HLK.out, G2.out, G3.out, G4.out⟩
                  · have HS : Hid (s = 1) := Lib.hid (by omega)
                    have t1 : ((s : Int) == 1) = true := by simp; omega
                    by_cases hq0 : q = 0
                    · have p0 : decide ((q : Int) > 0) = false := decide_eq_false (by omega)
                      have p0n : decide (0 < q) = false := decide_eq_false (by omega)
                      have HLK : Hid (LK ss N k s t (jn0 ss s q i) ((t : Int) - 1)) := Lib.hid (by rw [HS.out]; exact lk_z (by have := HTQ.out; rw [hq0, Nat.zero_mul] at this; omega))
                      clear h0 hq0
                      go_wp2_with (fail)
                      go_meet
                      case rel => exact ⟨jn0 ss s q i, (t : Int) - 1, rfl, rfl, HLK.out, G2.out, G3.out, G4.out⟩
                    · have p0 : decide ((q : Int) > 0) = true := decide_eq_true (by omega)
                      have p1 : 0 < q := by omega
                      obtain ⟨q', hq'⟩ : ∃ q', q = q' + 1 := ⟨q - 1, by omega⟩
                      obtain ⟨ut, hut⟩ : ∃ ut, t = ut + N := ⟨t - N, by have := HTQ.out; rw [hq', Nat.succ_mul] at this; omega⟩
                      have HLK : Hid (LK ss N k s t (sameSt (rowS ss q') (rowS ss (q' + 1)) i) (ut : Int)) := Lib.hid (by rw [HS.out]; exact lk_1 hlk hut (by rw [← HQI.out.1]; exact hq') HQI.out.2)
                      have e5 : IntKind.i64.wrap ((t : Int) - (N : Int)) = (ut : Int) := by rw [show (t : Int) - (N : Int) = (ut : Int) by omega]; exact IntWalk.i64_in (ut : Int) (by omega)
                      have e6 : IntKind.i64.wrap ((q : Int) - 1) = (q' : Int) := by rw [show (q : Int) - 1 = (q' : Int) by omega]; exact IntWalk.i64_in (q' : Int) (by omega)
                      have b0 : wj.cell? ⟨b, 0, none⟩ = some (.int .i64 d) := G3.out.cell (i := 0) (by omega)
                      have b1 : wj.cell? ⟨b, 1, none⟩ = some (.int .i64 f) := G3.out.cell (i := 1) (by omega)
                      have b2 : wj.cell? ⟨b, 2, none⟩ = some (.slice (some ⟨ga, 0, none⟩) n c) := G3.out.cell (i := 2) (by omega)
                      have HRJ : Hid (SlR wj (some ⟨ga, 0, none⟩) n (sc ss)) := Lib.hid (HR.out.below (by rw [HBB.out]; exact G4.out))
                      have hqn : q' + 1 < n := by omega
                      clear h0 hq0 hut hq'
                      go_wp2_with (go_at_call 71; refine (l06Joined_any d f _ n c N ss q' i _ HC.out HRJ.out hqn hi).mono ?_; rintro e w3 ⟨rfl, hw3⟩; have HW3 := Lib.hid hw3; clear hw3)
                      go_meet
                      case rel => exact ⟨_, (ut : Int), rfl, rfl, HLK.out, G2.out.below HW3.out G2.out.lt, G3.out.below HW3.out G3.out.lt, G4.out.trans (HW3.out.mono (by have := G3.out.lt; omega))⟩
                case rest =>
                  refine nxt2 _ _ ?_
                  go_upto_region 21 with (fail)
                  obtain ⟨jn, ui, rfl, rfl, hl, g2, g3, g4⟩ := hcut
                  rename World => wi
                  clear G2 G3 G4
                  have G2 := Lib.hid g2
                  have G3 := Lib.hid g3
                  have G4 := Lib.hid g4
                  have HL := Lib.hid hl
                  clear g2 g3 g4 hl
                  cases jn
                  · have HN : Hid (∀ z, z < k → lJ ss N s t z → G t = G z) := Lib.hid (fun z hz h => absurd h (HL.out.1 rfl z hz))
                    clear HL
                    go_quiet (fail)
                    go_wp2
                    go_roundw
                    case rel => first | exact ⟨s + 1, G, by omega, by go_num, gi_s (by omega) G1.out HN.out, G2.out.of_heap rfl, G3.out.of_heap rfl, below_drewN G4.out _⟩ | ((repeat apply Exists.intro); exact ⟨⟨s + 1, G, by omega, by go_num, gi_s (by omega) G1.out HN.out, G2.out.of_heap rfl, G3.out.of_heap rfl, below_drewN G4.out _⟩, rfl⟩)
                    case measure => simp [intOf]; omega
                  · obtain ⟨u, rfl, hu, he, hk2⟩ := HL.out.2 rfl
                    have HE := Lib.hid he
                    have HLK := Lib.hid hk2
                    clear he hk2 HL
                    have cu := G2.out.cell (i := u) hu
                    have ct := G2.out.cell (i := t) hlk
                    unfold nc at cu ct
                    have k2 : (0 : Int) ≤ (u : Int) := Int.natCast_nonneg _
                    have k3 : (u : Int) < (k : Int) := by omega
                    have k4 : (0 : Int) ≤ (t : Int) := Int.natCast_nonneg _
                    have k5 : (t : Int) < (k : Int) := by omega
                    have HGU := Lib.hid (G1.out.le u hu)
                    have HGT := Lib.hid (G1.out.le t hlk)
                    by_cases hgg : G u = G t
                    · have eg : (((G u : Nat) : Int) == ((G t : Nat) : Int)) = true := by rw [hgg]; simp
                      have HN : Hid (∀ z, z < k → lJ ss N s t z → G t = G z) := Lib.hid (fun z h1 h2 => by rw [HLK.out z h1 h2]; exact hgg.symm)
                      clear hgg
                      go_quiet (fail)
                      go_wp2
                      go_roundw
                      case rel => first | exact ⟨s + 1, G, by omega, by go_num, gi_s (by omega) G1.out HN.out, G2.out.of_heap rfl, G3.out.of_heap rfl, below_drewN G4.out _⟩ | ((repeat apply Exists.intro); exact ⟨⟨s + 1, G, by omega, by go_num, gi_s (by omega) G1.out HN.out, G2.out.of_heap rfl, G3.out.of_heap rfl, below_drewN G4.out _⟩, rfl⟩)
                      case measure => simp [intOf]; omega
                    · have eg : (((G u : Nat) : Int) == ((G t : Nat) : Int)) = false := by simp; intro h; exact hgg (by omega)
                      rcases Nat.lt_or_ge (G u) (G t) with hgl | hgl
                      · obtain ⟨F, hF⟩ : ∃ F : Nat → Nat, F = (fun x => if G x = G t then G u else G x) := ⟨_, rfl⟩
                        have HJ : Hid (GI (TE ss N k) k (Pr ss N t s) F) := Lib.hid (by rw [hF]; exact G1.out.join hlk hu HE.out hgl)
                        have hlt3 : ((G u : Nat) : Int) < ((G t : Nat) : Int) := by omega
                        have HN : Hid (∀ z, z < k → lJ ss N s t z → F t = F z) := Lib.hid (by rw [hF]; exact fun z h1 h2 => by rw [HLK.out z h1 h2]; show (if G t = G t then G u else G t) = (if G u = G t then G u else G u); simp)
                        have HF : Hid (∀ z, F z = (if G z = G t then G u else G z)) := Lib.hid (fun z => by rw [hF])
                        clear hF
                        clear hgg hgl
                        go_quiet (fail)
                        go_wp2
                        go_quiet (fail)
                        go_wp2
                        go_quiet (fail)
                        go_wp2
                        have hGA : G u ≤ k := by have := HGU.out; have := HGT.out; omega
                        have hGB : G t ≤ k := by have := HGU.out; have := HGT.out; omega
                        generalize hA : G u = A at *
                        generalize hB : G t = B at *
                        clear cu ct eg hA hB
                        go_loopw [15] (fun x wx => ∃ y : Nat, y ≤ k ∧ x = .int .i64 y ∧ Row wx g k (nc (fun z => if z < y ∧ G z = B then A else G z)) ∧ OnlyB g wi wx) (fun x _ => k - (intOf x).toNat)
                        case atStart => exact ⟨0, Nat.zero_le _, rfl, (G2.out.of_heap rfl).congr (fun z _ => by unfold nc; dsimp only; rw [if_neg (by omega)]), ⟨rfl, rfl, rfl, Nat.le_refl _, fun _ _ _ => rfl⟩⟩
                        case round =>
                          obtain ⟨y, hy, rfl, f1, f2⟩ := hrel
                          rename World => wx
                          have F1 := Lib.hid f1
                          have F2 := Lib.hid f2
                          clear f1 f2
                          by_cases hyk : y < k
                          · have cy := F1.out.cell hyk
                            have fy := F1.out.frozen y
                            unfold nc at cy
                            dsimp only at cy
                            rw [if_neg (by omega)] at cy
                            by_cases hgb : G y = B
                            · have eb : (((G y : Nat) : Int) == (B : Int)) = true := by rw [hgb]; simp
                              have HX : Hid (Row (wx.setCell ⟨g, y, none⟩ (.int .i64 (A : Nat))) g k (nc (fun z => if z < y + 1 ∧ G z = B then A else G z))) := Lib.hid ((nc_set F1.out).congr (fun z _ => by
                                unfold nc
                                dsimp only
                                by_cases e : z = y
                                · subst e; rw [if_pos rfl, if_pos ⟨by omega, hgb⟩]
                                · rw [if_neg e]
                                  by_cases e2 : z < y ∧ G z = B
                                  · rw [if_pos e2, if_pos ⟨by omega, e2.2⟩]
                                  · rw [if_neg e2, if_neg (fun h => e2 ⟨by omega, h.2⟩)]))
                              clear hgb
                              go_wp2
                              go_roundw
                              case rel => exact ⟨y + 1, by omega, by go_num, HX.out, F2.out.set y _⟩
                              case measure => simp [intOf]; omega
                            · have eb : (((G y : Nat) : Int) == (B : Int)) = false := by simp; intro h; exact hgb (by omega)
                              have HX : Hid (Row wx g k (nc (fun z => if z < y + 1 ∧ G z = B then A else G z))) := Lib.hid (F1.out.congr (fun z _ => by
                                unfold nc
                                dsimp only
                                by_cases e : z = y
                                · subst e; rw [if_neg (by omega), if_neg (fun h => hgb h.2)]
                                · by_cases e2 : z < y ∧ G z = B
                                  · rw [if_pos e2, if_pos ⟨by omega, e2.2⟩]
                                  · rw [if_neg e2, if_neg (fun h => e2 ⟨by omega, h.2⟩)]))
                              clear hgb
                              go_wp2
                              go_roundw
                              case rel => exact ⟨y + 1, by omega, by go_num, HX.out, F2.out⟩
                              case measure => simp [intOf]; omega
                          · have hy' : y = k := by omega
                            have HX : Hid (Row wx g k (nc F)) := Lib.hid (F1.out.congr (fun z hz => by
                              unfold nc
                              dsimp only
                              rw [HF.out z]
                              by_cases e : G z = B
                              · rw [if_pos ⟨by omega, e⟩, if_pos e]
                              · rw [if_neg (fun h => e h.2), if_neg e]))
                            have HG3 := Lib.hid (F2.out.row G3.out (by have := HGB.out; omega))
                            have HG4 : Hid (Below b w wx) := Lib.hid (G4.out.trans (F2.out.toBelow (by have := HGB.out; omega) (by have := G3.out.lt; omega)))
                            go_wp2
                            go_roundw
                            case rel => exact ⟨s + 1, F, by omega, by go_num, gi_s (by omega) HJ.out HN.out, HX.out, HG3.out, HG4.out⟩
                            case measure => simp [intOf]; omega
                      · have hgl : G t < G u := by omega
                        obtain ⟨F, hF⟩ : ∃ F : Nat → Nat, F = (fun x => if G x = G u then G t else G x) := ⟨_, rfl⟩
                        have HJ : Hid (GI (TE ss N k) k (Pr ss N t s) F) := Lib.hid (by rw [hF]; exact G1.out.join hu hlk HE.out.symm hgl)
                        have hlt3 : ((G t : Nat) : Int) < ((G u : Nat) : Int) := by omega
                        have HN : Hid (∀ z, z < k → lJ ss N s t z → F t = F z) := Lib.hid (by rw [hF]; exact fun z h1 h2 => by rw [HLK.out z h1 h2]; show (if G t = G u then G t else G t) = (if G u = G u then G t else G u); simp)
                        have HF : Hid (∀ z, F z = (if G z = G u then G t else G z)) := Lib.hid (fun z => by rw [hF])
                        clear hF
                        clear hgg hgl
                        go_quiet (fail)
                        go_wp2
                        go_quiet (fail)
                        go_wp2
                        go_quiet (fail)
                        go_wp2
                        have hGA : G t ≤ k := by have := HGU.out; have := HGT.out; omega
                        have hGB : G u ≤ k := by have := HGU.out; have := HGT.out; omega
                        generalize hA : G t = A at *
                        generalize hB : G u = B at *
                        clear cu ct eg hA hB
                        go_loopw [15] (fun x wx => ∃ y : Nat, y ≤ k ∧ x = .int .i64 y ∧ Row wx g k (nc (fun z => if z < y ∧ G z = B then A else G z)) ∧ OnlyB g wi wx) (fun x _ => k - (intOf x).toNat)
                        case atStart => exact ⟨0, Nat.zero_le _, rfl, (G2.out.of_heap rfl).congr (fun z _ => by unfold nc; dsimp only; rw [if_neg (by omega)]), ⟨rfl, rfl, rfl, Nat.le_refl _, fun _ _ _ => rfl⟩⟩
                        case round =>
                          obtain ⟨y, hy, rfl, f1, f2⟩ := hrel
                          rename World => wx
                          have F1 := Lib.hid f1
                          have F2 := Lib.hid f2
                          clear f1 f2
                          by_cases hyk : y < k
                          · have cy := F1.out.cell hyk
                            have fy := F1.out.frozen y
                            unfold nc at cy
                            dsimp only at cy
                            rw [if_neg (by omega)] at cy
                            by_cases hgb : G y = B
                            · have eb : (((G y : Nat) : Int) == (B : Int)) = true := by rw [hgb]; simp
                              have HX : Hid (Row (wx.setCell ⟨g, y, none⟩ (.int .i64 (A : Nat))) g k (nc (fun z => if z < y + 1 ∧ G z = B then A else G z))) := Lib.hid ((nc_set F1.out).congr (fun z _ => by
                                unfold nc
                                dsimp only
                                by_cases e : z = y
                                · subst e; rw [if_pos rfl, if_pos ⟨by omega, hgb⟩]
                                · rw [if_neg e]
                                  by_cases e2 : z < y ∧ G z = B
                                  · rw [if_pos e2, if_pos ⟨by omega, e2.2⟩]
                                  · rw [if_neg e2, if_neg (fun h => e2 ⟨by omega, h.2⟩)]))
                              clear hgb
                              go_wp2
                              go_roundw
                              case rel => exact ⟨y + 1, by omega, by go_num, HX.out, F2.out.set y _⟩
                              case measure => simp [intOf]; omega
                            · have eb : (((G y : Nat) : Int) == (B : Int)) = false := by simp; intro h; exact hgb (by omega)
                              have HX : Hid (Row wx g k (nc (fun z => if z < y + 1 ∧ G z = B then A else G z))) := Lib.hid (F1.out.congr (fun z _ => by
                                unfold nc
                                dsimp only
                                by_cases e : z = y
                                · subst e; rw [if_neg (by omega), if_neg (fun h => hgb h.2)]
                                · by_cases e2 : z < y ∧ G z = B
                                  · rw [if_pos e2, if_pos ⟨by omega, e2.2⟩]
                                  · rw [if_neg e2, if_neg (fun h => e2 ⟨by omega, h.2⟩)]))
                              clear hgb
                              go_wp2
                              go_roundw
                              case rel => exact ⟨y + 1, by omega, by go_num, HX.out, F2.out⟩
                              case measure => simp [intOf]; omega
                          · have hy' : y = k := by omega
                            have HX : Hid (Row wx g k (nc F)) := Lib.hid (F1.out.congr (fun z hz => by
                              unfold nc
                              dsimp only
                              rw [HF.out z]
                              by_cases e : G z = B
                              · rw [if_pos ⟨by omega, e⟩, if_pos e]
                              · rw [if_neg (fun h => e h.2), if_neg e]))
                            have HG3 := Lib.hid (F2.out.row G3.out (by have := HGB.out; omega))
                            have HG4 : Hid (Below b w wx) := Lib.hid (G4.out.trans (F2.out.toBelow (by have := HGB.out; omega) (by have := G3.out.lt; omega)))
                            go_wp2
                            go_roundw
                            case rel => exact ⟨s + 1, F, by omega, by go_num, gi_s (by omega) HJ.out HN.out, HX.out, HG3.out, HG4.out⟩
                            case measure => simp [intOf]; omega
            · have hs2' : s = 2 := by omega
              subst hs2'
              have HX := Lib.hid (gi_next G1.out)
              go_wp2
              go_roundw
              case rel => exact ⟨t + 1, G, by omega, by go_num, HX.out, G2.out, G3.out, G4.out⟩
              case measure => simp [intOf]; omega
        · have ht' : k = t := by omega
          subst ht'
          have hgl := G2.out.lt
          have hbl := G3.out.lt
          clear HG0 HBX0 HBW HGI0 G3 HR HRW HGA HC
          go_wp2_with (at_make; refine wpList_make_full _ rfl _ _ 28 rfl wo.heap.size 3 j0 _ 1 Try.underlying28 hi0 hz0 hz1 .i64 .i64 k k k rfl rfl rfl rfl (by rw [hz2]; omega) (by unfold maxLen; omega) (Nat.le_refl _) ?_; intro w2 own2 gr2; have B2 : Below wo.heap.size wo w2 := (Below.refl _ _).grown gr2 (Nat.le_refl _) (by simp); have HB2 := Lib.hid B2; have HR2 : Hid (Row w2 wo.heap.size k (nc (fun _ => 0))) := Lib.hid (((Row.of_owns own2).mono (M := k) (by omega)).congr fun j hj => by (rw [made_at _ _ _ (by omega)]; simp [Value.cells, Nat.mod_one, nc])); clear own2 gr2 B2)
          have HGR : Hid (Row w2 g k (nc G)) := Lib.hid (G2.out.below HB2.out hgl)
          have HBW : Hid (Below b w w2) := Lib.hid (G4.out.trans (HB2.out.mono (by omega)))
          clear G2 G4
          generalize hRR : wo.heap.size = R at *
          have HRR := Lib.hid hRR
          clear hRR
          go_loopw [17, 18] (fun nx x wx => ∃ (t nn : Nat) (B : Nat → Nat), t ≤ k ∧ nn ≤ t ∧ nx = .int .i64 nn ∧ x = .int .i64 t ∧ NumIn G t B nn ∧ Row wx R k (nc B) ∧ OnlyB R w2 wx) (fun _ x _ => k - (intOf x).toNat)
          case atStart => exact ⟨0, 0, _, Nat.zero_le _, Nat.le_refl _, rfl, rfl, NumIn.start _ _, HR2.out, OnlyB.refl _ _⟩
          case round =>
            obtain ⟨t, nn, B, ht, hnn, rfl, rfl, g1, g2, g3⟩ := hrel
            rename World => wi
            have I1 := Lib.hid g1
            have I2 := Lib.hid g2
            have I3 := Lib.hid g3
            clear g1 g2 g3
            have HGI : Hid (Row wi g k (nc G)) := Lib.hid (I3.out.row HGR.out (by omega))
            by_cases hlt : t < k
            · have cg := HGI.out.cell hlt
              have ft := I2.out.frozen t
              have HGT := G1.out.le t hlt
              have HLE : Hid (∀ x, x ≤ t → G x ≤ x) := Lib.hid (fun x hx => G1.out.le x (by omega))
              by_cases hgt : G t = t
              · have eg : (((G t : Nat) : Int) == (t : Int)) = true := by rw [hgt]; simp
                have HN := Lib.hid (I1.out.root HLE.out hgt)
                have ct := I2.out.cell hlt
                unfold nc at cg ct
                have e1 : IntKind.i64.wrap ((nn : Int) + 1) = (nn : Int) + 1 := IntWalk.i64_in _ (by omega)
                clear hgt HGT
                go_wp2
                go_roundw
                case rel => exact ⟨t + 1, nn + 1, _, by omega, by omega, by go_num, by go_num, HN.out, nc_set I2.out, I3.out.set t _⟩
                case measure => simp [intOf]; omega
              · have eg : (((G t : Nat) : Int) == (t : Int)) = false := by simp; intro h; exact hgt (by omega)
                have HN := Lib.hid (I1.out.old HLE.out hgt)
                have ct := I2.out.cell (i := t) hlt
                have cgt := I2.out.cell (i := G t) (by omega)
                unfold nc at cg ct cgt
                have k2 : (0 : Int) ≤ ((G t : Nat) : Int) := Int.natCast_nonneg _
                have k3 : ((G t : Nat) : Int) < (k : Int) := by omega
                have k4 : G t < k := by omega
                clear hgt HGT
                go_wp2
                go_roundw
                case rel => exact ⟨t + 1, nn, _, by omega, by omega, by go_num, by go_num, HN.out, nc_set I2.out, I3.out.set t _⟩
                case measure => simp [intOf]; omega
            · have ht' : k = t := by omega
              subst ht'
              have HX := Lib.hid (I1.out.done G1.out gi_all)
              go_wp2
              go_ret
              unfold FaceSP
              rw [HM.out, HBB.out]
              exact ⟨R, B, rfl, by omega, I2.out, HX.out, HBW.out.trans (I3.out.toBelow (by omega) (by have := HR2.out.lt; omega))⟩
end Go.Proofs.Yteojoifhmaoiaaa
