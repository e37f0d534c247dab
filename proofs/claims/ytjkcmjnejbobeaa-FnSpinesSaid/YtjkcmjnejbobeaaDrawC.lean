/-
  Drawn cards: contracts of l05Card and DrawCard: a drawn card is valid.
  By an AI agent.
-/
import Derived.Test.YtjkcmjnejbobeaaDraw
import Derived.Test.YtjkcmjnejbobeaaOwnA
import Derived.Test.YtjkcmjnejbobeaaStrs
import Derived.Deep.RegionLaw
namespace Go.Proofs.Ytjkcmjnejbobeaa
open Go.ChangeShapes Go.WideShapes Go.ChangeAt Go.RowKit
set_option maxRecDepth 100000
set_option linter.unusedVariables false

theorem Row.newT (w : World) (x y z : Value) (e : TypeId) : Row (w.alloc (.cells #[x, y, z] e (0, 0))) w.heap.size 3 (tri x y z) :=
  (Row.of_new w #[x, y, z] e).congr fun i hi => by
    have : i = 0 ∨ i = 1 ∨ i = 2 := by simp at hi; omega
    rcases this with rfl | rfl | rfl <;> rfl
def sv (ss : List ByteArray) : List Value := ss.map Value.string
theorem sv_len (ss : List ByteArray) : (sv ss).length = ss.length := by simp [sv]
theorem sv_push (ss : List ByteArray) (z : ByteArray) : sv ss ++ [Value.string z] = sv (ss ++ [z]) := by simp [sv]
theorem OwnA.scr {w : World} {B n c : Nat} {e : TypeId} {a : Option Addr} {ss : List ByteArray} (h : OwnA w B e a n c (sv ss)) : SlR w a n (sc ss) :=
  h.row.congr fun i hi => by
    have hl := h.len
    rw [sv_len] at hl
    unfold sc sv
    simp [List.getD, hl ▸ hi]
theorem all_push {p q : Nat} {ss : List ByteArray} {x : ByteArray} (h : ∀ s ∈ ss, Df s p q) (hx : Df x p q) : ∀ s ∈ ss ++ [x], Df s p q := by
  intro s hs
  rcases List.mem_append.1 hs with h1 | h1
  · exact h s h1
  · rw [List.mem_singleton.1 h1]; exact hx
/-- What a drawn card is. -/
structure DCd (B : Nat) (d f n : Nat) (aS : Option Addr) (ss : List ByteArray) (w : World) : Prop where
  len : ss.length = n
  row : SlR w aS n (sc ss)
  fresh : Fresh B aS n
  strips : ∀ s ∈ ss, Df s d f
  d4 : 1 ≤ d ∧ d ≤ 4
  f4 : 1 ≤ f ∧ f ≤ 4
  n6 : 1 ≤ n ∧ n ≤ 6
theorem DCd.below {B d f n : Nat} {aS : Option Addr} {ss : List ByteArray} {w w' : World} (h : DCd B d f n aS ss w) (hb : Below w.heap.size w w') : DCd B d f n aS ss w' := ⟨h.len, h.row.below hb, h.fresh, h.strips, h.d4, h.f4, h.n6⟩
def CardP (b : Nat) (a : Option Addr) (l c : Nat) (w : World) (e : Ending) (w' : World) : Prop :=
  ∃ (d f n : Nat) (aS : Option Addr) (cS : Nat) (ss : List ByteArray), e = .returned (.agg #[.int .i64 d, .int .i64 f, .slice aS n cS]) ∧ DCd w.heap.size d f n aS ss w' ∧ Dr w' b a l c ∧ OnlyB b w w'
set_option maxHeartbeats 1600000 in
theorem card_any (b : Nat) (a : Option Addr) (l c : Nat) (w : World) (hD : Dr w b a l c) :
    Calls Try.prog 48 #[.pointer (some ⟨b, 0, none⟩)] w (CardP b a l c w) := by
  have hlt := hD.lt
  have hB0 := Below.box w (.cells #[.int .i64 0, .int .i64 0, .slice none 0 0] 34 (0, 0))
  have hR0 := Row.newT w (.int .i64 0) (.int .i64 0) (.slice none 0 0) 34
  have HD0 := Lib.hid (hD.below hB0)
  have HR0 := Lib.hid hR0
  have HB0 := Lib.hid hB0
  have HD := Lib.hid hD
  clear hD hR0 hB0
  go_enter Try.func48, Try.ntmps48
  go_wp2_with fail
  refine (below_any b a l c 4 _ (by omega) HD0.out).mono ?_
  rintro e w1 ⟨v1, rfl, ⟨hv0, hv1, _⟩, hD1, hO1⟩
  have hv1' := hv1 (by omega)
  obtain ⟨d, hd⟩ : ∃ d : Nat, 1 + v1 = (d : Int) := ⟨(1 + v1).toNat, by omega⟩
  have hd1 : 1 ≤ d := by omega
  have hd4 : d ≤ 4 := by omega
  have HDE := Lib.hid hd
  have zz1 := hO1.size
  simp only [World.size_alloc] at zz1
  have HD1 := Lib.hid hD1
  have HO1 := Lib.hid hO1
  clear hD1 hO1 hv1 hd
  go_wp2_with fail
  rw [HDE.out]
  refine (below_any b a l c 4 _ (by omega) HD1.out).mono ?_
  rintro e w2 ⟨v2, rfl, ⟨hu0, hu1, _⟩, hD2, hO2⟩
  have hu1' := hu1 (by omega)
  obtain ⟨f, hf⟩ : ∃ f : Nat, 1 + v2 = (f : Int) := ⟨(1 + v2).toNat, by omega⟩
  have hf1 : 1 ≤ f := by omega
  have hf4 : f ≤ 4 := by omega
  have HFE := Lib.hid hf
  have zz2 := hO2.size
  have HD2 := Lib.hid hD2
  have HO2 := Lib.hid (HO1.out.then hO2)
  have HR2 := Lib.hid (hO2.row (HO1.out.row HR0.out (by omega)) (by omega))
  clear hD2 hO2 hu1 hf HR0 HD0 HO1 HD1
  have b1 := Below.box w2 (.cells #[.int .i64 d, .int .i64 f, .slice none 0 0] 34 (0, 0))
  have hOB : OnlyB b w w2 := OnlyB.then ((OnlyB.refl b w).belowB HB0.out (Nat.le_refl _)) HO2.out
  have HX : Hid (Box3 w b a l c w.heap.size w2.heap.size (tri (.int .i64 0) (.int .i64 0) (.slice none 0 0)) (.int .i64 d) (.int .i64 f) (.slice none 0 0) (w2.alloc (.cells #[.int .i64 d, .int .i64 f, .slice none 0 0] 34 (0, 0)))) := Lib.hid
    ⟨HD.out, Nat.le_refl _, by omega, hOB.belowB b1 (by omega), HD2.out.cur.below b1, HR2.out.below b1 HR2.out.lt, Row.newT _ _ _ _ _⟩
  clear b1 hOB HD2 HR2 HO2 HB0 HD
  go_wp2_with fail
  rw [HFE.out]
  clear HDE HFE hv0 hv1' hu0 hu1'
  generalize w2.alloc (.cells #[.int .i64 d, .int .i64 f, .slice none 0 0] 34 (0, 0)) = wB at *
  refine (below_any b a l c 6 _ (by omega) HX.out.ready).mono ?_
  rintro e w3 ⟨v3, rfl, ⟨hv0, hv1, _⟩, hD4, hO4⟩
  have hv1' := hv1 (by omega)
  obtain ⟨n, hn⟩ : ∃ n : Nat, 1 + v3 = (n : Int) := ⟨(1 + v3).toNat, by omega⟩
  have hn1 : 1 ≤ n := by omega
  have hn6 : n ≤ 6 := by omega
  have HXX := Lib.hid (HX.out.draw hO4 hD4)
  have HNE := Lib.hid hn
  clear hD4 hO4 hv1 HX hn
  go_wp2_with fail
  rw [HNE.out]
  clear HNE hv0 hv1'
  have hr0 : w.heap.size ≤ w.heap.size := Nat.le_refl _
  generalize w2.heap.size = o at *
  generalize hrr : w.heap.size = r at *
  have HRR := Lib.hid hrr
  clear hrr
  go_loopw [5] (fun i wr => ∃ (k cS : Nat) (aS : Option Addr) (ss : List ByteArray), k ≤ n ∧ i = .int .i64 k ∧ OwnA wr (o + 1) 9 aS k cS (sv ss) ∧ (∀ s ∈ ss, Df s d f) ∧ Box3 w b a l c r o (tri (.int .i64 0) (.int .i64 0) (.slice none 0 0)) (.int .i64 d) (.int .i64 f) (.slice aS k cS) wr) (fun i _ => n - (intOf i).toNat)
  case atStart => exact ⟨0, 0, none, [], Nat.zero_le _, rfl, OwnA.nil _ _ _, fun s h => absurd h (by simp), HXX.out⟩
  case round =>
    clear HXX
    obtain ⟨k, cS, aS, ss, hk, rfl, hA, hz, hX⟩ := hrel
    have HA := Lib.hid hA
    have HZ := Lib.hid hz
    have HX := Lib.hid hX
    obtain ⟨⟨x0, x1, x2⟩, fz⟩ := hX.cells
    clear hA hz hX
    by_cases hlt : k < n
    · go_wp2_with fail
      refine (draw_any b a l c d f _ (by omega) (by omega) HX.out.ready).mono ?_
      rintro e w4 ⟨s, rfl, hs, hD5, hO5⟩
      have HSD := Lib.hid hs
      have HX2 := Lib.hid (HX.out.draw hO5 hD5)
      have HA2 := Lib.hid (HA.out.keep hO5 (by have := HX.out.lt; have := HX.out.rlo; omega))
      clear hD5 hO5 hs x0 x1 x2 fz HA HX
      go_wp2_with fail
      refine (below_any b a l c 4 _ (by omega) HX2.out.ready).mono ?_
      rintro e wt ⟨v4, rfl, ⟨hv0, hv1, _⟩, hD5, hO5⟩
      have hv1' := hv1 (by omega)
      have HX4 := Lib.hid (HX2.out.draw hO5 hD5)
      have HA4 := Lib.hid (HA2.out.keep hO5 (by have := HX2.out.lt; have := HX2.out.rlo; omega))
      clear hD5 hO5 hv1 HX2 HA2
      obtain ⟨⟨y0, y1, y2⟩, fy⟩ := HX4.out.cells
      by_cases h0 : v4 = 0
      · subst h0
        go_wp2_with fail
        refine (flat_any d f _ (by omega) (by omega)).mono ?_
        rintro e wz ⟨⟨s2, rfl, hs2⟩, rfl⟩
        have HS2 := Lib.hid hs2
        clear hs2 y0 y1 y2 fy
        have HZ2 := Lib.hid (all_push HZ.out HS2.out)
        obtain ⟨⟨y0, y1, y2⟩, fy⟩ := HX4.out.cells
        have HO1 := Lib.hid (HA4.out.below (Below.box _ (.cells #[.string s2] 9 (0, 0))))
        have HC1 : Hid ((wt.alloc (.cells #[.string s2] 9 (0, 0))).cell? ⟨wt.heap.size, 0, none⟩ = some (.string s2)) := Lib.hid (new_cell rfl)
        have HX1 := Lib.hid (HX4.out.below (Below.box wt (.cells #[.string s2] 9 (0, 0))))
        have hsz := HX1.out.box.lt
        go_wp2_with (at_builtin; refine append_a rfl (.tmp 48) (.tmp 50) 32 rfl Try.underlying32 infoStr rfl (by omega) (by simp [Act.eval]) HO1.out (by omega) (by omega) (by simp [Act.eval]) HC1.out rfl ?_; intro g' c' w5 o5 b5; rw [sv_push] at o5; have O5 := Lib.hid o5; have HX5 := Lib.hid (HX1.out.belowB b5); obtain ⟨⟨z0, z1, z2⟩, fz5⟩ := HX5.out.cells; clear o5 b5)
        have HXF := Lib.hid (HX5.out.put (.slice (some ⟨g', 0, none⟩) (k + 1) c'))
        have HOF : Hid (OwnA (w5.setCell ⟨o, 2, none⟩ (.slice (some ⟨g', 0, none⟩) (k + 1) c')) (o + 1) 9 (some ⟨g', 0, none⟩) (k + 1) c' (sv (ss ++ [s2]))) := Lib.hid (OwnA.of1 (O5.out.set_other (p := ⟨o, 2, none⟩) (by have := O5.out.lt; show g' ≠ o; omega) _))
        go_roundw
        case rel => exact ⟨k + 1, c', _, _, by omega, by go_num, HOF.out, HZ2.out, HXF.out⟩
        case measure => simp [intOf]; omega
      · by_cases h1 : v4 = 1
        · subst h1
          by_cases hk0 : 0 < k
          · obtain ⟨g, rfl, hown⟩ : ∃ g, aS = some ⟨g, 0, none⟩ ∧ Own1 wt (o + 1) 9 g k cS (sv ss) := by
              rcases HA4.out.cases with h | h
              · omega
              · exact h
            have hzl : ss.length = k := by rw [← sv_len]; exact hown.len
            have hr := (HA4.out.scr).row hk0
            obtain ⟨g2, hg2, hr2⟩ := hr
            simp only [Option.some.injEq, Addr.mk.injEq, and_true] at hg2
            subst hg2
            have c0 := hr2.cell (i := k - 1) (by omega)
            unfold sc at c0
            have HS2 : Hid (Df (ss.getD (k - 1) default) d f) := Lib.hid (HZ.out _ (by simp only [List.getD]; rw [List.getElem?_eq_getElem (by omega)]; exact List.getElem_mem _))
            have i0 : (0 : Int) ≤ ((k - 1 : Nat) : Int) := Int.natCast_nonneg _
            have i1 : ((k - 1 : Nat) : Int) < (k : Int) := by omega
            have i2 : (k : Int) - 1 = ((k - 1 : Nat) : Int) := by omega
            have i3 : wrap64 ((k : Int) - 1) = ((k - 1 : Nat) : Int) := by rw [i2]; exact IntWalk.wrap64_in _ (by omega)
            have t1 : decide ((k : Int) > 0) = true := decide_eq_true (by omega)
            clear hr2 hown i2 i3
            generalize ss.getD (k - 1) default = x at *
            have HZ2 := Lib.hid (all_push HZ.out HS2.out)
            obtain ⟨⟨y0, y1, y2⟩, fy⟩ := HX4.out.cells
            have HO1 := Lib.hid (HA4.out.below (Below.box _ (.cells #[.string x] 9 (0, 0))))
            have HC1 : Hid ((wt.alloc (.cells #[.string x] 9 (0, 0))).cell? ⟨wt.heap.size, 0, none⟩ = some (.string x)) := Lib.hid (new_cell rfl)
            have HX1 := Lib.hid (HX4.out.below (Below.box wt (.cells #[.string x] 9 (0, 0))))
            have hsz := HX1.out.box.lt
            go_wp2_with (at_builtin; refine append_a rfl (.tmp 48) (.tmp 50) 32 rfl Try.underlying32 infoStr rfl (by omega) (by simp [Act.eval]) HO1.out (by omega) (by omega) (by simp [Act.eval]) HC1.out rfl ?_; intro g' c' w5 o5 b5; rw [sv_push] at o5; have O5 := Lib.hid o5; have HX5 := Lib.hid (HX1.out.belowB b5); obtain ⟨⟨z0, z1, z2⟩, fz5⟩ := HX5.out.cells; clear o5 b5)
            have HXF := Lib.hid (HX5.out.put (.slice (some ⟨g', 0, none⟩) (k + 1) c'))
            have HOF : Hid (OwnA (w5.setCell ⟨o, 2, none⟩ (.slice (some ⟨g', 0, none⟩) (k + 1) c')) (o + 1) 9 (some ⟨g', 0, none⟩) (k + 1) c' (sv (ss ++ [x]))) := Lib.hid (OwnA.of1 (O5.out.set_other (p := ⟨o, 2, none⟩) (by have := O5.out.lt; show g' ≠ o; omega) _))
            go_roundw
            case rel => exact ⟨k + 1, c', _, _, by omega, by go_num, HOF.out, HZ2.out, HXF.out⟩
            case measure => simp [intOf]; omega
          · have t1 : decide ((k : Int) > 0) = false := decide_eq_false (by omega)
            have HZ2 := Lib.hid (all_push HZ.out HSD.out)
            obtain ⟨⟨y0, y1, y2⟩, fy⟩ := HX4.out.cells
            have HO1 := Lib.hid (HA4.out.below (Below.box _ (.cells #[.string s] 9 (0, 0))))
            have HC1 : Hid ((wt.alloc (.cells #[.string s] 9 (0, 0))).cell? ⟨wt.heap.size, 0, none⟩ = some (.string s)) := Lib.hid (new_cell rfl)
            have HX1 := Lib.hid (HX4.out.below (Below.box wt (.cells #[.string s] 9 (0, 0))))
            have hsz := HX1.out.box.lt
            go_wp2_with (at_builtin; refine append_a rfl (.tmp 48) (.tmp 50) 32 rfl Try.underlying32 infoStr rfl (by omega) (by simp [Act.eval]) HO1.out (by omega) (by omega) (by simp [Act.eval]) HC1.out rfl ?_; intro g' c' w5 o5 b5; rw [sv_push] at o5; have O5 := Lib.hid o5; have HX5 := Lib.hid (HX1.out.belowB b5); obtain ⟨⟨z0, z1, z2⟩, fz5⟩ := HX5.out.cells; clear o5 b5)
            have HXF := Lib.hid (HX5.out.put (.slice (some ⟨g', 0, none⟩) (k + 1) c'))
            have HOF : Hid (OwnA (w5.setCell ⟨o, 2, none⟩ (.slice (some ⟨g', 0, none⟩) (k + 1) c')) (o + 1) 9 (some ⟨g', 0, none⟩) (k + 1) c' (sv (ss ++ [s]))) := Lib.hid (OwnA.of1 (O5.out.set_other (p := ⟨o, 2, none⟩) (by have := O5.out.lt; show g' ≠ o; omega) _))
            go_roundw
            case rel => exact ⟨k + 1, c', _, _, by omega, by go_num, HOF.out, HZ2.out, HXF.out⟩
            case measure => simp [intOf]; omega
        · have t0 : (v4 == 0) = false := by simpa using h0
          have t1 : (v4 == 1) = false := by simpa using h1
          have HZ2 := Lib.hid (all_push HZ.out HSD.out)
          obtain ⟨⟨y0, y1, y2⟩, fy⟩ := HX4.out.cells
          have HO1 := Lib.hid (HA4.out.below (Below.box _ (.cells #[.string s] 9 (0, 0))))
          have HC1 : Hid ((wt.alloc (.cells #[.string s] 9 (0, 0))).cell? ⟨wt.heap.size, 0, none⟩ = some (.string s)) := Lib.hid (new_cell rfl)
          have HX1 := Lib.hid (HX4.out.below (Below.box wt (.cells #[.string s] 9 (0, 0))))
          have hsz := HX1.out.box.lt
          go_wp2_with (at_builtin; refine append_a rfl (.tmp 48) (.tmp 50) 32 rfl Try.underlying32 infoStr rfl (by omega) (by simp [Act.eval]) HO1.out (by omega) (by omega) (by simp [Act.eval]) HC1.out rfl ?_; intro g' c' w5 o5 b5; rw [sv_push] at o5; have O5 := Lib.hid o5; have HX5 := Lib.hid (HX1.out.belowB b5); obtain ⟨⟨z0, z1, z2⟩, fz5⟩ := HX5.out.cells; clear o5 b5)
          have HXF := Lib.hid (HX5.out.put (.slice (some ⟨g', 0, none⟩) (k + 1) c'))
          have HOF : Hid (OwnA (w5.setCell ⟨o, 2, none⟩ (.slice (some ⟨g', 0, none⟩) (k + 1) c')) (o + 1) 9 (some ⟨g', 0, none⟩) (k + 1) c' (sv (ss ++ [s]))) := Lib.hid (OwnA.of1 (O5.out.set_other (p := ⟨o, 2, none⟩) (by have := O5.out.lt; show g' ≠ o; omega) _))
          go_roundw
          case rel => exact ⟨k + 1, c', _, _, by omega, by go_num, HOF.out, HZ2.out, HXF.out⟩
          case measure => simp [intOf]; omega
    · have hk' : k = n := by omega
      subst hk'
      have hl : ss.length = k := by rw [← sv_len]; exact HA.out.len
      have HL := Lib.hid hl
      have fr0 := HX.out.res.frozen 0
      have fr1 := HX.out.res.frozen 1
      have fr2 := HX.out.res.frozen 2
      have r0 : wr.cell? ⟨r, 0, none⟩ = some (.int .i64 0) := HX.out.res.cell (i := 0) (by omega)
      have r1 : wr.cell? ⟨r, 1, none⟩ = some (.int .i64 0) := HX.out.res.cell (i := 1) (by omega)
      have r2 : wr.cell? ⟨r, 2, none⟩ = some (.slice none 0 0) := HX.out.res.cell (i := 2) (by omega)
      clear hl
      go_wp2
      have hro : r < o + 1 := by have := HX.out.ro; omega
      refine bodyPost_ret (v := .agg #[.int .i64 d, .int .i64 f, .slice aS k cS]) (by simp [results, Try.results48, go_sem, r0, r1, r2]) rfl ⟨d, f, k, aS, cS, ss, rfl, ⟨HL.out, ?_, ?_, HZ.out, ⟨by omega, by omega⟩, ⟨by omega, by omega⟩, ⟨by omega, by omega⟩⟩, ?_, ?_⟩
      · exact (((HA.out.set_other (p := ⟨r, 0, none⟩) hro _).set_other (p := ⟨r, 1, none⟩) hro _).set_other (p := ⟨r, 2, none⟩) hro _).scr
      · exact HA.out.fresh _ (by have := HX.out.rlo; omega)
      · exact (HX.out.fin _ _ _).1
      · exact (HX.out.fin _ _ _).2
theorem DCd.ok {B d f n : Nat} {aS : Option Addr} {ss : List ByteArray} {w : World} (h : DCd B d f n aS ss w) : cardOkB d f ss = true := by
  have h1 := h.d4
  have h2 := h.f4
  have h3 := h.n6
  have h4 := h.len
  refine cardOk_yes ⟨by omega, by omega, by omega, by omega, by omega, by omega⟩ (allIn_of fun k hk => ?_)
  exact (h.strips _ (by rw [getD_at _ _ hk]; exact List.getElem_mem hk)).strip (by omega) (by omega) (by omega) (by omega)
theorem SlR.set_lowC {w : World} {B N : Nat} {a : Option Addr} {c : Nat → Value} (h : SlR w a N c) (hf : Fresh B a N) {p : Addr} (hp : p.block < B) (v : Value) : SlR (w.setCell p v) a N c := by
  rcases h with h | ⟨g, rfl, hr⟩
  · exact .inl h
  · rcases hf with hf | ⟨g', hg, hB⟩
    · exact .inl hf
    · simp only [Option.some.injEq, Addr.mk.injEq, and_true] at hg
      subst hg
      exact .inr ⟨g, rfl, hr.set_other (by omega) v⟩
theorem DCd.set {B d f n : Nat} {aS : Option Addr} {ss : List ByteArray} {w : World} (h : DCd B d f n aS ss w) {p : Addr} (hp : p.block < B) (v : Value) : DCd B d f n aS ss (w.setCell p v) := ⟨h.len, h.row.set_lowC h.fresh hp v, h.fresh, h.strips, h.d4, h.f4, h.n6⟩
theorem DCd.mono {B B' d f n : Nat} {aS : Option Addr} {ss : List ByteArray} {w : World} (h : DCd B d f n aS ss w) (hB : B' ≤ B) : DCd B' d f n aS ss w := ⟨h.len, h.row, h.fresh.mono hB, h.strips, h.d4, h.f4, h.n6⟩
def DCardP (w : World) (e : Ending) (w' : World) : Prop :=
  ∃ (d f n : Nat) (aS : Option Addr) (cS : Nat) (ss : List ByteArray), e = .returned (.agg #[.int .i64 d, .int .i64 f, .slice aS n cS]) ∧ DCd w.heap.size d f n aS ss w' ∧ Below w.heap.size w w'
end Go.Proofs.Ytjkcmjnejbobeaa
