/-
  Drawn books: contracts of l22Cards and DrawBook: at most four valid cards.
  By an AI agent.
-/
import Derived.Test.YtjkcmjnejbobeaaRoom
import Derived.Test.YtjkcmjnejbobeaaCardL
namespace Go.Proofs.Ytjkcmjnejbobeaa
open Go.ChangeShapes Go.WideShapes Go.ChangeAt Go.RowKit Go.Joins Go.Deep
set_option maxRecDepth 100000
set_option linter.unusedVariables false

/-! ### append of a card -/
def Own3 (w : World) (B : Nat) (e : TypeId) (g n c : Nat) (xs : List Value) : Prop := w.ownsRow B e 3 (.slice (some ⟨g, 0, none⟩) n c) n xs
theorem Own3.lt {w : World} {B g n c : Nat} {e : TypeId} {xs : List Value} (h : Own3 w B e g n c xs) : B ≤ g ∧ g < w.heap.size := World.ownsRow.lt h g rfl
theorem Own3.cap {w : World} {B g n c : Nat} {e : TypeId} {xs : List Value} (h : Own3 w B e g n c xs) : n ≤ c := by
  rcases h.2 with ⟨h1, _⟩ | ⟨g', cap, cur, hv, hb, hg, hn, _⟩
  · cases h1
  · cases hv; exact hn
theorem Own3.heap {w w' : World} {B g n c : Nat} {e : TypeId} {xs : List Value} (h : Own3 w B e g n c xs) (hh : w'.heap[g]? = w.heap[g]?) : Own3 w' B e g n c xs := by
  refine ⟨h.1, ?_⟩
  rcases h.2 with hn | ⟨f, cap, cur, hv, hB, hgg, rest⟩
  · exact .inl hn
  · simp only [Value.slice.injEq, Option.some.injEq, Addr.mk.injEq, and_true, true_and] at hv
    obtain ⟨rfl, rfl⟩ := hv
    exact .inr ⟨g, c, cur, rfl, hB, hh.trans hgg, rest⟩
theorem Own3.below {w w' : World} {B g n c : Nat} {e : TypeId} {xs : List Value} (h : Own3 w B e g n c xs) (hb : Below w.heap.size w w') : Own3 w' B e g n c xs := h.heap (hb.block g h.lt.2)
theorem Own3.keep {w w' : World} {B g n c k : Nat} {e : TypeId} {xs : List Value} (h : Own3 w B e g n c xs) (ho : OnlyB k w w') (hn : g ≠ k) : Own3 w' B e g n c xs := h.heap (ho.block g h.lt.2 hn)
/-- 'append(xs, p)', p a struct of three cells that lies in block b. -/
theorem append_three {P : Program} {ops : Array Oper} {rest : List Oper} {o : Oper} {a : Act} {Q : Exit → Act → World → Prop} {w : World} (hgd : o.guard = none) (s x : Operand) (t : TypeId)
    (ho : o.op = .call { callee := .builtin .append, args := #[s, x], argTypes := #[t, t] })
    {B : Nat} {e : TypeId} {z : Value} {bytes : Nat} (ht : P.underlying t = some (.slice e)) (hi : (P.info? e).map (fun i => (i.zero, i.size, i.bytes)) = some (some z, 3, bytes)) (hzs : z.cells.size = 3) (hby : bytes ≤ 64)
    {g n c : Nat} {xs : List Value} (hs : a.eval s = .slice (some ⟨g, 0, none⟩) n c) (hown : Own3 w B e g n c xs) (hn : n ≤ 1048576)
    {b : Nat} {d : Nat → Value} (hx : a.eval x = .slice (some ⟨b, 0, none⟩) 1 1) (hc : Row w b 3 d) (h1 : ∀ i, i < 3 → (d i).oneCell' = true)
    (h : ∀ g' c' w', Own3 w' B e g' (n + 1) c' (xs ++ rowL d 3) → OnlyB g w w' → (g' = g ∨ g' = w.heap.size) → wpList P ops Q rest (a.put o.dst (.slice (some ⟨g', 0, none⟩) (n + 1) c')) w') : wpList P ops Q (o :: rest) a w := by
  obtain ⟨i, hi0, hz0, hz1, hz2⟩ := info_parts hi
  refine wpList_append_lies w hgd s x t ho B e i z 3 bytes ht hi0 hz0 hz1 hz2 hzs (by omega) _ n xs hs hown ⟨b, 0, none⟩ 1 1 (rowL d 3) hx (rowL_length _ _) (rowL_news hc) (rowL_one h1) (by omega) (by unfold maxLen; omega) (Nat.le_trans (Nat.mul_le_mul_left (n + 1) hby) (by omega)) (by have := hown.lt; omega) w.heap.size rfl ?_
  intro g' c' w' o1 g1 l1 _
  refine h g' c' w' o1 (OnlyB.of_grown g1) ?_
  rcases l1 with l1 | l1
  · left; simpa [Value.ownBlock] using l1.symm
  · exact .inr l1
/-- The cells of drawn cards. -/
def bc3 (xs : List DCard) (j : Nat) : Value := tri (.int .i64 (xs.getD (j / 3) default).d) (.int .i64 (xs.getD (j / 3) default).f) (.slice (xs.getD (j / 3) default).a (xs.getD (j / 3) default).n (xs.getD (j / 3) default).c) (j % 3)
theorem bc3_0 (xs : List DCard) (i : Nat) : bc3 xs (i * 3) = .int .i64 (xs.getD i default).d := by unfold bc3; rw [show i * 3 / 3 = i by omega, show i * 3 % 3 = 0 by omega]; rfl
theorem bc3_1 (xs : List DCard) (i : Nat) : bc3 xs (i * 3 + 1) = .int .i64 (xs.getD i default).f := by unfold bc3; rw [show (i * 3 + 1) / 3 = i by omega, show (i * 3 + 1) % 3 = 1 by omega]; rfl
theorem bc3_2 (xs : List DCard) (i : Nat) : bc3 xs (i * 3 + 2) = .slice (xs.getD i default).a (xs.getD i default).n (xs.getD i default).c := by unfold bc3; rw [show (i * 3 + 2) / 3 = i by omega, show (i * 3 + 2) % 3 = 2 by omega]; rfl
def bv (xs : List DCard) : List Value := rowL (bc3 xs) (xs.length * 3)
theorem bv_push (xs : List DCard) (x : DCard) : bv xs ++ rowL (tri (.int .i64 x.d) (.int .i64 x.f) (.slice x.a x.n x.c)) 3 = bv (xs ++ [x]) := by
  unfold bv rowL
  rw [List.length_append, List.length_singleton, Nat.add_mul, List.range_add, List.map_append, List.map_map]
  congr 1
  · apply List.map_congr_left
    intro j hj
    have hj' : j < xs.length * 3 := List.mem_range.1 hj
    have h1 : (xs ++ [x]).getD (j / 3) default = xs.getD (j / 3) default := by
      simp only [List.getD]; rw [List.getElem?_append_left (by omega)]
    unfold bc3
    rw [h1]
  · have h2 : (xs ++ [x]).getD xs.length default = x := by simp [List.getD]
    apply List.map_congr_left
    intro j hj
    have hj' : j < 3 := List.mem_range.1 hj
    have : j = 0 ∨ j = 1 ∨ j = 2 := by omega
    show tri _ _ _ j = bc3 _ (xs.length * 3 + j)
    rcases this with rfl | rfl | rfl
    · rw [Nat.add_zero, bc3_0, h2]; rfl
    · rw [bc3_1, h2]; rfl
    · rw [bc3_2, h2]; rfl
theorem Own3.row {w : World} {B g n c : Nat} {e : TypeId} {xs : List DCard} (h : Own3 w B e g n c (bv xs)) (hl : xs.length = n) : Row w g (n * 3) (bc3 xs) :=
  (Row.of_owns h).congr fun i hi => by unfold bv; rw [hl]; exact rowL_getD _ _ _ hi
/-- A drawn card; its strips lie in another block than g. -/
def DrG (B g : Nat) (x : DCard) (w : World) : Prop := (∃ d f : Nat, x.d = (d : Int) ∧ x.f = (f : Int) ∧ DCd B d f x.n x.a x.ss w) ∧ ∀ ga, x.a = some ⟨ga, 0, none⟩ → ga ≠ g ∧ ga < w.heap.size
theorem DCd.only {B d f n k : Nat} {aS : Option Addr} {ss : List ByteArray} {w w' : World} (h : DCd B d f n aS ss w) (ho : OnlyB k w w') (hn : ∀ ga, aS = some ⟨ga, 0, none⟩ → ga ≠ k) : DCd B d f n aS ss w' :=
  ⟨h.len, ho.sl h.row (fun b hb h0 => by
    rcases h.fresh with h1 | ⟨g, hg, _⟩
    · exact absurd h1 h0
    · rw [hg] at hb
      simp only [Option.some.injEq] at hb
      subst hb
      exact hn g hg), h.fresh, h.strips, h.d4, h.f4, h.n6⟩
theorem DrG.only {B g k : Nat} {x : DCard} {w w' : World} (h : DrG B g x w) (ho : OnlyB k w w') (hk : k = g ∨ k < B) : DrG B g x w' := by
  obtain ⟨⟨d, f, h1, h2, h3⟩, h4⟩ := h
  refine ⟨⟨d, f, h1, h2, h3.only ho fun ga hga => ?_⟩, fun ga hga => ⟨(h4 ga hga).1, Nat.lt_of_lt_of_le (h4 ga hga).2 ho.size⟩⟩
  rcases hk with rfl | hk
  · exact (h4 ga hga).1
  · rcases h3.fresh with h5 | ⟨g', hg, hB⟩
    · have := h3.n6; omega
    · rw [hg] at hga
      simp only [Option.some.injEq, Addr.mk.injEq, and_true] at hga
      omega
theorem DrG.below {B g : Nat} {x : DCard} {w w' : World} (h : DrG B g x w) (hb : Below w.heap.size w w') : DrG B g x w' := by
  obtain ⟨⟨d, f, h1, h2, h3⟩, h4⟩ := h
  exact ⟨⟨d, f, h1, h2, h3.below hb⟩, fun ga hga => ⟨(h4 ga hga).1, Nat.lt_of_lt_of_le (h4 ga hga).2 hb.size⟩⟩
theorem DrG.to {B g g' : Nat} {x : DCard} {w : World} (h : DrG B g x w) (hg : g' = g ∨ w.heap.size ≤ g') : DrG B g' x w := by
  refine ⟨h.1, fun ga hga => ⟨?_, (h.2 ga hga).2⟩⟩
  have := h.2 ga hga
  omega
/-- A book as the walks of books read it. -/
theorem book_LC {w : World} {B g n : Nat} {xs : List DCard} (hr : Row w g (n * 3) (bc3 xs)) (hl : xs.length = n) (hx : ∀ x ∈ xs, DrG B g x w) : LC w g 0 n xs := by
  intro i hi
  have hm : xs.getD i default ∈ xs := by rw [getD_at _ _ (by omega)]; exact List.getElem_mem _
  obtain ⟨⟨d, f, h1, h2, h3⟩, _⟩ := hx _ hm
  have hn := h3.n6
  obtain ⟨ga, hga, hrow⟩ := h3.row.row (by omega)
  have c0 := hr.cell (i := i * 3) (by omega)
  have c1 := hr.cell (i := i * 3 + 1) (by omega)
  have c2 := hr.cell (i := i * 3 + 2) (by omega)
  rw [bc3_0] at c0
  rw [bc3_1] at c1
  rw [bc3_2, hga] at c2
  rw [Nat.zero_add]
  exact ⟨ga, (xs.getD i default).c, ⟨c0, c1, c2⟩, .of_row hrow⟩
def LstB (b : Nat) (a : Option Addr) (l c : Nat) (w : World) (e : Ending) (w' : World) : Prop :=
  ∃ (n g cS : Nat) (xs : List DCard), e = .returned (.slice (some ⟨g, 0, none⟩) n cS) ∧ xs.length = n ∧ Row w' g (n * 3) (bc3 xs) ∧ w.heap.size ≤ g ∧ n ≤ 4 ∧ (∀ x ∈ xs, DrG w.heap.size g x w') ∧ n ≤ cS ∧ Dr w' b a l c ∧ OnlyB b w w'
theorem infoCardB : (Try.prog.info? 34).map (fun i => (i.zero, i.size, i.bytes)) = some (some (.agg #[.int .i64 0, .int .i64 0, .slice none 0 0]), 3, 40) := by kernel_rfl
set_option maxHeartbeats 3200000 in
theorem cards_any (b : Nat) (a : Option Addr) (l c : Nat) (w : World) (hD : Dr w b a l c) :
    Calls Try.prog 31 #[.pointer (some ⟨b, 0, none⟩)] w (LstB b a l c w) := by
  have hbw := hD.lt
  have hb1 := Below.box w (.cells #[] 34 (0, 0))
  have HD1 := Lib.hid (hD.below hb1)
  have HO1 := Lib.hid ((OnlyB.refl b w).belowB hb1 (Nat.le_refl _))
  have HE1 : Hid (Own3 (w.alloc (.cells #[] 34 (0, 0))) w.heap.size 34 w.heap.size 0 0 (bv [])) := Lib.hid (owns_empty w 34 3)
  have HD := Lib.hid hD
  have z1 := hb1.size
  clear hD hb1
  go_enter Try.func31, Try.ntmps31
  go_wp2_with fail
  generalize w.alloc (.cells #[] 34 (0, 0)) = wA at *
  refine (below_any b a l c 5 _ (by omega) HD1.out).mono ?_
  rintro e w2 ⟨v2, rfl, ⟨hu0, hu1, _⟩, hD2, hO2⟩
  have hu1' := hu1 (by omega)
  obtain ⟨n, rfl⟩ : ∃ f : Nat, v2 = (f : Int) := ⟨v2.toNat, by omega⟩
  have hn5 : n ≤ 4 := by omega
  have HE2 := Lib.hid (HE1.out.keep hO2 (by omega))
  have HD2 := Lib.hid hD2
  have HO2 := Lib.hid (HO1.out.then hO2)
  clear hD2 hO2 hu1 hu0 hu1' HE1 HD1 HO1
  go_wp2_with fail
  go_loopw [3, 5] (fun s i wr => ∃ (k cS g : Nat) (xs : List DCard), k ≤ n ∧ i = .int .i64 k ∧ s = .slice (some ⟨g, 0, none⟩) k cS ∧ xs.length = k ∧ Own3 wr w.heap.size 34 g k cS (bv xs) ∧ (∀ x ∈ xs, DrG w.heap.size g x wr) ∧ Dr wr b a l c ∧ OnlyB b w wr) (fun _ i _ => n - (intOf i).toNat)
  case atStart => exact ⟨0, 0, w.heap.size, [], Nat.zero_le _, rfl, rfl, rfl, HE2.out, fun p h => absurd h (by simp), HD2.out, HO2.out⟩
  case round =>
    clear HE2 HD2 HO2
    obtain ⟨k, cS, g, xs, hk, rfl, rfl, hl, hA, hz, hDr, hOr⟩ := hrel
    have HL := Lib.hid hl
    have HA := Lib.hid hA
    have HZ := Lib.hid hz
    have HDr := Lib.hid hDr
    have HOr := Lib.hid hOr
    have hgB := hA.lt
    have hbr := hDr.lt
    have hsr := hOr.size
    clear hl hA hz hDr hOr
    by_cases hlt : k < n
    · go_wp2_with fail
      refine (card_any b a l c _ HDr.out).mono ?_
      rintro e w4 ⟨d, f, m, aS, cc, ss, rfl, hcd, hD4, hO4⟩
      have hbx1 := Below.box w4 (.cells #[.int .i64 d, .int .i64 f, .slice aS m cc] 34 (0, 0))
      have hbx2 := Below.box (w4.alloc (.cells #[.int .i64 d, .int .i64 f, .slice aS m cc] 34 (0, 0))) (.cells #[.int .i64 d, .int .i64 f, .slice aS m cc] 34 (0, 0))
      have hz5 : (w4.alloc (.cells #[.int .i64 d, .int .i64 f, .slice aS m cc] 34 (0, 0))).heap.size = w4.heap.size + 1 := by simp
      have hz6 : ((w4.alloc (.cells #[.int .i64 d, .int .i64 f, .slice aS m cc] 34 (0, 0))).alloc (.cells #[.int .i64 d, .int .i64 f, .slice aS m cc] 34 (0, 0))).heap.size = w4.heap.size + 2 := by simp
      have hbb : Below w4.heap.size w4 ((w4.alloc (.cells #[.int .i64 d, .int .i64 f, .slice aS m cc] 34 (0, 0))).alloc (.cells #[.int .i64 d, .int .i64 f, .slice aS m cc] 34 (0, 0))) := hbx1.trans (hbx2.mono (by omega))
      have hs4 := hO4.size
      obtain ⟨⟨y0, y1, y2⟩, fy⟩ : (((w4.alloc (.cells #[.int .i64 d, .int .i64 f, .slice aS m cc] 34 (0, 0))).cell? ⟨w4.heap.size, 0, none⟩ = some (.int .i64 d)) ∧ ((w4.alloc (.cells #[.int .i64 d, .int .i64 f, .slice aS m cc] 34 (0, 0))).cell? ⟨w4.heap.size, 1, none⟩ = some (.int .i64 f)) ∧ ((w4.alloc (.cells #[.int .i64 d, .int .i64 f, .slice aS m cc] 34 (0, 0))).cell? ⟨w4.heap.size, 2, none⟩ = some (.slice aS m cc))) ∧ True := ⟨⟨(Row.newT w4 _ _ _ _).cell (i := 0) (by omega), (Row.newT w4 _ _ _ _).cell (i := 1) (by omega), (Row.newT w4 _ _ _ _).cell (i := 2) (by omega)⟩, trivial⟩
      have HAF := Lib.hid (((HA.out.keep hO4 (by omega)).below hbb))
      have HRD2 := Lib.hid (hD4.below hbb)
      have HO8 := Lib.hid ((HOr.out.then hO4).below hbb)
      have HRW := Lib.hid (Row.newT (w4.alloc (.cells #[.int .i64 d, .int .i64 f, .slice aS m cc] 34 (0, 0))) (.int .i64 d) (.int .i64 f) (.slice aS m cc) 34)
      have HZX : Hid (∀ x ∈ xs ++ [⟨d, f, aS, m, cc, ss⟩], DrG w.heap.size g x ((w4.alloc (.cells #[.int .i64 d, .int .i64 f, .slice aS m cc] 34 (0, 0))).alloc (.cells #[.int .i64 d, .int .i64 f, .slice aS m cc] 34 (0, 0)))) := Lib.hid (fun x hx => by
        rcases List.mem_append.1 hx with h | h
        · exact ((HZ.out x h).only hO4 (.inr hbw)).below hbb
        · rw [List.mem_singleton.1 h]
          refine DrG.below ⟨⟨d, f, rfl, rfl, hcd.mono hsr⟩, fun ga hga => ?_⟩ hbb
          have hn6 := hcd.n6
          obtain ⟨g2, hg2, hr2⟩ := hcd.row.row (by omega)
          have hga' : aS = some ⟨ga, 0, none⟩ := hga
          rw [hg2] at hga'
          simp only [Option.some.injEq, Addr.mk.injEq, and_true] at hga'
          subst hga'
          refine ⟨?_, hr2.lt⟩
          rcases hcd.fresh with h3 | ⟨g3, hg3, hB3⟩
          · omega
          · rw [hg2] at hg3
            simp only [Option.some.injEq, Addr.mk.injEq, and_true] at hg3
            omega)
      have HZ5 := Lib.hid hz5
      have HZ6 := Lib.hid hz6
      clear hbx1 hbx2 hbb hz5 hz6 hcd hD4 hO4 fy HA HZ HOr
      go_wp2_with (at_builtin; refine append_three rfl _ _ 24 rfl Try.underlying24 infoCardB rfl (by omega) rfl HAF.out (by omega) (by rw [HZ5.out]; rfl) HRW.out (fun i _ => by unfold tri; split <;> (try split) <;> rfl) ?_; intro g' c' w9 o9 oo9 l9; have O9 := Lib.hid o9; have OO9 := Lib.hid oo9; have L9 := Lib.hid l9; clear o9 oo9 l9)
      have hbB : Below w.heap.size ((w4.alloc (.cells #[.int .i64 d, .int .i64 f, .slice aS m cc] 34 (0, 0))).alloc (.cells #[.int .i64 d, .int .i64 f, .slice aS m cc] 34 (0, 0))) w9 := OO9.out.toBelow hgB.1 (by rw [HZ6.out]; omega)
      have HOZ := Lib.hid (HO8.out.belowB hbB (Nat.le_refl _))
      have HCZ := Lib.hid (HRD2.out.cur.belowB hbB hbw)
      have O10 : Hid (Own3 w9 w.heap.size 34 g' (k + 1) c' (bv (xs ++ [⟨d, f, aS, m, cc, ss⟩]))) := Lib.hid (by rw [← bv_push]; exact O9.out)
      have HZN : Hid (∀ x ∈ xs ++ [⟨d, f, aS, m, cc, ss⟩], DrG w.heap.size g' x w9) := Lib.hid (fun x hx => by
        have h1 := HZX.out x hx
        have h2 := h1.to (g' := g') (by
          rcases L9.out with h | h
          · exact .inl h
          · exact .inr (by omega))
        rcases L9.out with h | h
        · subst h
          exact h1.only OO9.out (.inl rfl)
        · refine ⟨?_, fun ga hga => ⟨(h2.2 ga hga).1, Nat.lt_of_lt_of_le (h2.2 ga hga).2 OO9.out.size⟩⟩
          exact (h1.only OO9.out (.inl rfl)).1)
      go_roundw
      case rel => exact ⟨k + 1, c', g', xs ++ [⟨d, f, aS, m, cc, ss⟩], by omega, by go_num, rfl, by rw [List.length_append, HL.out]; rfl, O10.out, HZN.out, HD.out.keep HOZ.out HCZ.out, HOZ.out⟩
      case measure => simp [intOf]; omega
    · have hk' : n = k := by omega
      subst hk'
      go_wp2
      go_ret
      exact ⟨n, g, cS, xs, rfl, HL.out, HA.out.row HL.out, HA.out.lt.1, hn5, HZ.out, HA.out.cap, HDr.out, HOr.out⟩
def DrwB (w : World) (e : Ending) (w' : World) : Prop :=
  ∃ (n g cS : Nat) (xs : List DCard), e = .returned (.slice (some ⟨g, 0, none⟩) n cS) ∧ xs.length = n ∧ LC w' g 0 n xs ∧ n ≤ 4 ∧ (∀ x ∈ xs, ∃ (d f : Nat) (w1 : World), x.d = (d : Int) ∧ x.f = (f : Int) ∧ DCd w.heap.size d f x.n x.a x.ss w1) ∧ n ≤ cS ∧ Below w.heap.size w w'
theorem drawBook_any (a : Option Addr) (l c : Nat) (w : World) (hm : l ≤ 1048576) (hY : Bytes w a l) :
    Calls Try.prog 10 #[.slice a l c] w (DrwB w) := by
  go_enter Try.func10, Try.ntmps10
  go_wp2_with fail
  refine (new_any a l c _ hm hY).mono ?_
  rintro e w1 ⟨b, rfl, hb, hD, hBe⟩
  have HBe := Lib.hid hBe
  have hz := hBe.size
  go_wp2_with fail
  refine (cards_any b a l c _ hD).mono ?_
  rintro e w2 ⟨n, g, cS, xs, rfl, hl, hr, hg, hn, hp, hcc, _, hO⟩
  have HX := Lib.hid (show xs.length = n ∧ LC w2 g 0 n xs ∧ n ≤ 4 ∧ (∀ x ∈ xs, ∃ (d f : Nat) (w1 : World), x.d = (d : Int) ∧ x.f = (f : Int) ∧ DCd w.heap.size d f x.n x.a x.ss w1) ∧ n ≤ cS ∧ Below w.heap.size w w2 from ⟨hl, book_LC hr hl hp, hn, fun x hx => by
    obtain ⟨⟨d, f, h1, h2, h3⟩, _⟩ := hp x hx
    exact ⟨d, f, w2, h1, h2, h3.mono (by omega)⟩, hcc, HBe.out.trans (hO.toBelow hb (by omega))⟩)
  clear hl hr hg hn hp hO hD hBe hcc
  go_wp2
  go_ret
  exact ⟨n, g, cS, xs, rfl, HX.out⟩
end Go.Proofs.Ytjkcmjnejbobeaa
