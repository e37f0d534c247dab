/-
  Drawn discs: contracts of l18Disc and DrawDiscs: a drawn disc is valid.
  By an AI agent.
-/
import Derived.Test.YtpafclfonclcdaaDiscI
import Derived.Test.YtpafclfonclcdaaOwnA
import Derived.Deep.RegionLaw
namespace Go.Proofs.Ytpafclfonclcdaa
open Go.ChangeShapes Go.WideShapes Go.ChangeAt Go.RowKit
set_option maxRecDepth 100000
set_option linter.unusedVariables false

def iv (zs : List Int) : List Value := zs.map (Value.int .i64)
theorem iv_len (zs : List Int) : (iv zs).length = zs.length := by simp [iv]
theorem iv_push (zs : List Int) (z : Int) : iv zs ++ [Value.int .i64 z] = iv (zs ++ [z]) := by simp [iv]
theorem OwnA.icr {w : World} {B n c : Nat} {e : TypeId} {a : Option Addr} {zs : List Int} (h : OwnA w B e a n c (iv zs)) : SlR w a n (ic zs) :=
  h.row.congr fun i hi => by
    have hl := h.len
    rw [iv_len] at hl
    unfold ic iv
    simp [List.getD, hl ▸ hi]
def DscP (b : Nat) (a : Option Addr) (l c : Nat) (w : World) (e : Ending) (w' : World) : Prop :=
  ∃ (n f : Nat) (aS : Option Addr) (cS : Nat) (zs : List Int), e = .returned (.agg #[.int .i64 n, .int .i64 f, .slice aS n cS]) ∧ zs.length = n ∧ SlR w' aS n (ic zs) ∧ Fresh w.heap.size aS n ∧ (discOkB n f zs = true ∧ ∀ j, j < n → zs.getD j 0 ≤ 5) ∧ Dr w' b a l c ∧ OnlyB b w w'
theorem box_new (w : World) (u : Value) (e : TypeId) : (w.alloc (.cells #[u] e (0, 0))).drew.cell? ⟨w.heap.size, 0, none⟩ = some u := ((Row.of_new w #[u] e).drew).cell (i := 0) (by simp)
theorem pics_push {zs : List Int} {k : Nat} {x : Int} (hl : zs.length = k) (h : ∀ j, j < k → 0 ≤ zs.getD j 0 ∧ zs.getD j 0 ≤ 5) (h0 : 0 ≤ x) (h5 : x ≤ 5) : ∀ j, j < k + 1 → 0 ≤ (zs ++ [x]).getD j 0 ∧ (zs ++ [x]).getD j 0 ≤ 5 := by
  intro j hj
  by_cases e : j = k
  · subst e
    have : (zs ++ [x]).getD j 0 = x := by simp [List.getD, ← hl]
    rw [this]; exact ⟨h0, h5⟩
  · have : (zs ++ [x]).getD j 0 = zs.getD j 0 := by
      simp only [List.getD]; rw [List.getElem?_append_left (by omega)]
    rw [this]; exact h j (by omega)
theorem disc_pics {n f : Nat} {zs : List Int} (hl : zs.length = n) (hn : 2 ≤ n) (hn' : n ≤ 11) (hf : f < n) (h : ∀ j, j < n → 0 ≤ zs.getD j 0 ∧ zs.getD j 0 ≤ 5) : discOkB n f zs = true ∧ ∀ j, j < n → zs.getD j 0 ≤ 5 := by
  refine ⟨discOk_yes ⟨by omega, by omega, by omega, by omega, by rw [hl]⟩ (picAll_of fun k hk => picB_iff.2 ?_), fun j hj => (h j hj).2⟩
  have := h k (by omega)
  omega
set_option maxHeartbeats 1600000 in
theorem disc_any (b : Nat) (a : Option Addr) (l c : Nat) (w : World) (hD : Dr w b a l c) :
    Calls Try.prog 23 #[.pointer (some ⟨b, 0, none⟩)] w (DscP b a l c w) := by
  have hlt := hD.lt
  have hB0 := Below.box w (.cells #[.int .i64 0, .int .i64 0, .slice none 0 0] 26 (0, 0))
  have hR0 := Row.new3 w (.int .i64 0) (.int .i64 0) (.slice none 0 0) 26
  have HD0 := Lib.hid (hD.below hB0)
  have HR0 := Lib.hid hR0
  have HB0 := Lib.hid hB0
  have HD := Lib.hid hD
  clear hD hR0 hB0
  go_enter Try.func23, Try.ntmps23
  go_wp2_with fail
  refine (below_any b a l c 10 _ (by omega) HD0.out).mono ?_
  rintro e w1 ⟨v1, rfl, ⟨hv0, hv1, _⟩, hD1, hO1⟩
  have hv1' := hv1 (by omega)
  obtain ⟨n, rfl⟩ : ∃ n : Nat, v1 = (n : Int) := ⟨v1.toNat, by omega⟩
  have zz1 := hO1.size
  simp only [World.size_alloc] at zz1
  have HD1 := Lib.hid hD1
  have HR1 := Lib.hid (hO1.row HR0.out (by omega))
  have HO1 := Lib.hid hO1
  clear hD1 hO1 hv1 HR0 HD0
  obtain ⟨N, hN⟩ : ∃ N : Nat, 2 + (n : Int) = (N : Int) := ⟨2 + n, by omega⟩
  have hN2 : 2 ≤ N := by omega
  have hN11 : N ≤ 11 := by omega
  have b1 := Below.box w1 (.cells #[.int .i64 N, .int .i64 0, .slice none 0 0] 26 (0, 0))
  have HD2 := Lib.hid (HD1.out.below b1)
  have HP2 := Lib.hid (Row.new3 w1 (.int .i64 N) (.int .i64 0) (.slice none 0 0) 26)
  have HR2 := Lib.hid (HR1.out.below b1 HR1.out.lt)
  have HO2 := Lib.hid (HO1.out.belowB b1 HO1.out.size)
  have hp := HP2.out.lt
  clear b1
  have HN := Lib.hid hN
  clear hN
  go_wp2_with fail
  rw [HN.out]
  clear HN hv0 hv1' HD1 HR1 HO1
  generalize w1.alloc (.cells #[.int .i64 N, .int .i64 0, .slice none 0 0] 26 (0, 0)) = wA at *
  refine (below_any b a l c N _ (by omega) HD2.out).mono ?_
  rintro e w2 ⟨v2, rfl, ⟨hv0, hv1, _⟩, hD3, hO3⟩
  have hv1' := hv1 (by omega)
  obtain ⟨f, rfl⟩ : ∃ f : Nat, v2 = (f : Int) := ⟨v2.toNat, by omega⟩
  have zz2 := hO3.size
  have hf : f < N := by omega
  have HD3 := Lib.hid hD3
  have HP3 := Lib.hid (hO3.row HP2.out (by omega))
  have HR3 := Lib.hid (hO3.row HR2.out (by omega))
  have HO3 := Lib.hid (HO2.out.then hO3)
  clear hD3 hO3 hv1 hv0 hv1' HP2 HR2 HO2 HD2
  have f1 := HP3.out.frozen 1
  have x1 : w2.cell? ⟨w1.heap.size, 1, none⟩ = some (.int .i64 0) := HP3.out.cell (i := 1) (by omega)
  have hOB : OnlyB b w w2 := OnlyB.then ((OnlyB.refl b w).belowB HB0.out (Nat.le_refl _)) HO3.out
  have HX : Hid (Box3 w b a l c w.heap.size w1.heap.size (tri (.int .i64 0) (.int .i64 0) (.slice none 0 0)) (.int .i64 N) (.int .i64 f) (.slice none 0 0) (w2.setCell ⟨w1.heap.size, 1, none⟩ (.int .i64 f))) := Lib.hid
    ⟨HD.out, Nat.le_refl _, by omega, hOB.setNew (p := ⟨w1.heap.size, 1, none⟩) (by show w.heap.size ≤ w1.heap.size; omega) _, HD3.out.cur.set_other (p := ⟨w1.heap.size, 1, none⟩) (by show b ≠ w1.heap.size; omega) _, HR3.out.set_other (p := ⟨w1.heap.size, 1, none⟩) (by show w.heap.size ≠ w1.heap.size; omega) _, (HP3.out.set 1 _).congr fun j hj => tri_set1 _ _ _ _ hj⟩
  clear hOB HD3 HP3 HR3 HO3 HB0 HD
  go_wp2_with fail
  clear f1 x1
  generalize w2.setCell ⟨w1.heap.size, 1, none⟩ (.int .i64 f) = wB at *
  refine (below_any b a l c 4 _ (by omega) HX.out.ready).mono ?_
  rintro e w3 ⟨v3, rfl, ⟨hv0, hv1, _⟩, hD4, hO4⟩
  have hv1' := hv1 (by omega)
  obtain ⟨p, hp⟩ : ∃ p : Nat, 1 + v3 = (p : Int) := ⟨(1 + v3).toNat, by omega⟩
  have hp1 : 1 ≤ p := by omega
  have hp4 : p ≤ 4 := by omega
  have HXX := Lib.hid (HX.out.draw hO4 hD4)
  have HP := Lib.hid hp
  clear hD4 hO4 hv1 HX hp
  go_wp2_with fail
  rw [HP.out]
  clear HP hv0 hv1'
  generalize w.heap.size = r at *
  generalize w1.heap.size = o at *
  go_loopw [5] (fun i wr => ∃ (k cS : Nat) (aS : Option Addr) (zs : List Int), k ≤ N ∧ i = .int .i64 k ∧ OwnA wr (o + 1) 3 aS k cS (iv zs) ∧ (∀ j, j < k → 0 ≤ zs.getD j 0 ∧ zs.getD j 0 ≤ 5) ∧ Box3 w b a l c r o (tri (.int .i64 0) (.int .i64 0) (.slice none 0 0)) (.int .i64 N) (.int .i64 f) (.slice aS k cS) wr) (fun i _ => N - (intOf i).toNat)
  case atStart => exact ⟨0, 0, none, [], Nat.zero_le _, rfl, OwnA.nil _ _ _, fun j h => absurd h (Nat.not_lt_zero j), HXX.out⟩
  case round =>
    clear HXX
    obtain ⟨k, cS, aS, zs, hk, rfl, hA, hz, hX⟩ := hrel
    have HA := Lib.hid hA
    have HZ := Lib.hid hz
    have HX := Lib.hid hX
    obtain ⟨⟨x0, x1, x2⟩, fz⟩ := hX.cells
    clear hA hz hX
    by_cases hlt : k < N
    · by_cases hkp : p ≤ k
      · by_cases hm : N % p = 0
        · have t1 : decide ((k : Int) ≥ (p : Int)) = true := decide_eq_true (by omega)
          have e1 : ((N : Int)).tmod (p : Int) = 0 := by
            rw [Int.tmod_eq_emod_of_nonneg (by omega)]; omega
          have e2 : ¬ (p : Int) = 0 := by omega
          obtain ⟨g, rfl, hown⟩ : ∃ g, aS = some ⟨g, 0, none⟩ ∧ Own1 wr (o + 1) 3 g k cS (iv zs) := by
            rcases HA.out.cases with h | h
            · omega
            · exact h
          have hzl : zs.length = k := by rw [← iv_len]; exact hown.len
          have c0 := (hown.cells).cell (i := k - p) (by omega)
          unfold ic at c0
          obtain ⟨z1, z2⟩ := HZ.out (k - p) (by omega)
          have HZ2 := Lib.hid (pics_push hzl HZ.out z1 z2)
          have i0 : (0 : Int) ≤ ((k - p : Nat) : Int) := Int.natCast_nonneg _
          have i1 : ((k - p : Nat) : Int) < (k : Int) := by omega
          have i2 : (k : Int) - (p : Int) = ((k - p : Nat) : Int) := by omega
          have i3 : IntKind.i64.wrap ((k : Int) - (p : Int)) = ((k - p : Nat) : Int) := by rw [i2]; exact IntWalk.i64_in _ (by omega)
          generalize zs.getD (k - p) 0 = x at c0 z1 z2 HZ2
          have HO1 : Hid (OwnA ((wr.alloc (.cells #[.int .i64 x] 3 (0, 0))).drew) (o + 1) 3 (some ⟨g, 0, none⟩) k cS (iv zs)) := Lib.hid (OwnA.of1 ((hown.alloc _).drew))
          have HC1 := Lib.hid (box_new wr (.int .i64 x) 3)
          have HX1 : Hid (Box3 w b a l c r o (tri (.int .i64 0) (.int .i64 0) (.slice none 0 0)) (.int .i64 N) (.int .i64 f) (.slice (some ⟨g, 0, none⟩) k cS) ((wr.alloc (.cells #[.int .i64 x] 3 (0, 0))).drew)) := Lib.hid ((HX.out.below (Below.box _ _)).drew)
          have hsz := HX1.out.box.lt
          clear hown i2
          generalize k - p = m at *
          go_wp2
          clear e1 e2 hm hkp
          obtain ⟨⟨q0, q1, q2⟩, fq⟩ := HX1.out.cells
          go_region_law (refine step_append_a rfl (.tmp 36) (.tmp 44) 24 rfl Try.underlying24 infoInt rfl (by omega) (by simp [Act.eval, Act.put]) HO1.out (by omega) (by omega) (by simp [Act.eval, Act.put]) HC1.out rfl ?_; intro g' c' w5 o5 b5; rw [iv_push] at o5; have O5 := Lib.hid o5; have HX5 := Lib.hid (HX1.out.belowB b5); obtain ⟨⟨y0, y1, y2⟩, fy⟩ := HX5.out.cells; clear o5 b5)
          all_goals
            have HXF := Lib.hid (HX5.out.put (.slice (some ⟨g', 0, none⟩) (k + 1) c'))
            have HOF : Hid (OwnA (w5.setCell ⟨o, 2, none⟩ (.slice (some ⟨g', 0, none⟩) (k + 1) c')) (o + 1) 3 (some ⟨g', 0, none⟩) (k + 1) c' (iv (zs ++ [x]))) := Lib.hid (OwnA.of1 (O5.out.set_other (p := ⟨o, 2, none⟩) (by have := O5.out.lt; show g' ≠ o; omega) _))
            clear y0 y1 y2 fy q0 q1 q2 fq x0 x1 x2 fz c0 i0 i1 i3 t1
            go_wp2
            go_roundw
            case rel => exact ⟨k + 1, c', _, _, by omega, by go_num, HOF.out, HZ2.out, HXF.out⟩
            case measure => simp [intOf]; omega
        · have t1 : decide ((k : Int) ≥ (p : Int)) = true := decide_eq_true (by omega)
          have e1 : ((N : Int)).tmod (p : Int) = ((N % p : Nat) : Int) := by
            rw [Int.tmod_eq_emod_of_nonneg (by omega)]; simp
          have e3 : ¬ ((N % p : Nat) : Int) = 0 := by omega
          have e2 : ¬ (p : Int) = 0 := by omega
          go_wp2_with fail
          clear t1 e1 e2 e3
          refine (below_any b a l c 6 _ (by omega) HX.out.ready).mono ?_
          rintro e w4 ⟨v4, rfl, ⟨hv0, hv1, _⟩, hD5, hO5⟩
          have hv1' := hv1 (by omega)
          have HX4 := Lib.hid (HX.out.draw hO5 hD5)
          have HA4 := Lib.hid (HA.out.keep hO5 (by have := HX.out.lt; have := HX.out.rlo; omega))
          have hzl : zs.length = k := by rw [← iv_len]; exact HA.out.len
          have HZ2 := Lib.hid (pics_push hzl HZ.out hv0 (by omega : v4 ≤ 5))
          clear hD5 hO5 hv1 hzl
          obtain ⟨⟨y0, y1, y2⟩, fy⟩ := HX4.out.cells
          have HO1 := Lib.hid (HA4.out.below (Below.box w4 (.cells #[.int .i64 v4] 3 (0, 0))))
          have HC1 : Hid ((w4.alloc (.cells #[.int .i64 v4] 3 (0, 0))).cell? ⟨w4.heap.size, 0, none⟩ = some (.int .i64 v4)) := Lib.hid (new_cell rfl)
          have HX1 := Lib.hid (HX4.out.below (Below.box w4 (.cells #[.int .i64 v4] 3 (0, 0))))
          have hsz := HX1.out.box.lt
          go_wp2_with (at_builtin; refine append_a rfl (.tmp 50) (.tmp 52) 24 rfl Try.underlying24 infoInt rfl (by omega) (by simp [Act.eval]) HO1.out (by omega) (by omega) (by simp [Act.eval]) HC1.out rfl ?_; intro g' c' w5 o5 b5; rw [iv_push] at o5; have O5 := Lib.hid o5; have HX5 := Lib.hid (HX1.out.belowB b5); obtain ⟨⟨z0, z1, z2⟩, fz5⟩ := HX5.out.cells; clear o5 b5)
          have HXF := Lib.hid (HX5.out.put (.slice (some ⟨g', 0, none⟩) (k + 1) c'))
          have HOF : Hid (OwnA (w5.setCell ⟨o, 2, none⟩ (.slice (some ⟨g', 0, none⟩) (k + 1) c')) (o + 1) 3 (some ⟨g', 0, none⟩) (k + 1) c' (iv (zs ++ [v4]))) := Lib.hid (OwnA.of1 (O5.out.set_other (p := ⟨o, 2, none⟩) (by have := O5.out.lt; show g' ≠ o; omega) _))
          go_roundw
          case rel => exact ⟨k + 1, c', _, _, by omega, by go_num, HOF.out, HZ2.out, HXF.out⟩
          case measure => simp [intOf]; omega
      · have t1 : decide ((k : Int) ≥ (p : Int)) = false := decide_eq_false (by omega)
        go_wp2_with fail
        clear t1
        refine (below_any b a l c 6 _ (by omega) HX.out.ready).mono ?_
        rintro e w4 ⟨v4, rfl, ⟨hv0, hv1, _⟩, hD5, hO5⟩
        have hv1' := hv1 (by omega)
        have HX4 := Lib.hid (HX.out.draw hO5 hD5)
        have HA4 := Lib.hid (HA.out.keep hO5 (by have := HX.out.lt; have := HX.out.rlo; omega))
        have hzl : zs.length = k := by rw [← iv_len]; exact HA.out.len
        have HZ2 := Lib.hid (pics_push hzl HZ.out hv0 (by omega : v4 ≤ 5))
        clear hD5 hO5 hv1 hzl
        obtain ⟨⟨y0, y1, y2⟩, fy⟩ := HX4.out.cells
        have HO1 := Lib.hid (HA4.out.below (Below.box w4 (.cells #[.int .i64 v4] 3 (0, 0))))
        have HC1 : Hid ((w4.alloc (.cells #[.int .i64 v4] 3 (0, 0))).cell? ⟨w4.heap.size, 0, none⟩ = some (.int .i64 v4)) := Lib.hid (new_cell rfl)
        have HX1 := Lib.hid (HX4.out.below (Below.box w4 (.cells #[.int .i64 v4] 3 (0, 0))))
        have hsz := HX1.out.box.lt
        go_wp2_with (at_builtin; refine append_a rfl (.tmp 50) (.tmp 52) 24 rfl Try.underlying24 infoInt rfl (by omega) (by simp [Act.eval]) HO1.out (by omega) (by omega) (by simp [Act.eval]) HC1.out rfl ?_; intro g' c' w5 o5 b5; rw [iv_push] at o5; have O5 := Lib.hid o5; have HX5 := Lib.hid (HX1.out.belowB b5); obtain ⟨⟨z0, z1, z2⟩, fz5⟩ := HX5.out.cells; clear o5 b5)
        have HXF := Lib.hid (HX5.out.put (.slice (some ⟨g', 0, none⟩) (k + 1) c'))
        have HOF : Hid (OwnA (w5.setCell ⟨o, 2, none⟩ (.slice (some ⟨g', 0, none⟩) (k + 1) c')) (o + 1) 3 (some ⟨g', 0, none⟩) (k + 1) c' (iv (zs ++ [v4]))) := Lib.hid (OwnA.of1 (O5.out.set_other (p := ⟨o, 2, none⟩) (by have := O5.out.lt; show g' ≠ o; omega) _))
        go_roundw
        case rel => exact ⟨k + 1, c', _, _, by omega, by go_num, HOF.out, HZ2.out, HXF.out⟩
        case measure => simp [intOf]; omega
    · have hk' : k = N := by omega
      subst hk'
      have hl : zs.length = k := by rw [← iv_len]; exact HA.out.len
      have HQ := Lib.hid (disc_pics hl hN2 hN11 hf HZ.out)
      have HL := Lib.hid hl
      have fr0 := HX.out.res.frozen 0
      have fr1 := HX.out.res.frozen 1
      have fr2 := HX.out.res.frozen 2
      have r0 : wr.cell? ⟨r, 0, none⟩ = some (.int .i64 0) := HX.out.res.cell (i := 0) (by omega)
      have r1 : wr.cell? ⟨r, 1, none⟩ = some (.int .i64 0) := HX.out.res.cell (i := 1) (by omega)
      have r2 : wr.cell? ⟨r, 2, none⟩ = some (.slice none 0 0) := HX.out.res.cell (i := 2) (by omega)
      clear hl
      go_wp2
      have hro : r < o + 1 := by omega
      refine bodyPost_ret (v := .agg #[.int .i64 k, .int .i64 f, .slice aS k cS]) (by simp [results, Try.results23, go_sem, r0, r1, r2]) rfl ⟨k, f, aS, cS, zs, rfl, HL.out, ?_, ?_, HQ.out, ?_, ?_⟩
      · exact (((HA.out.set_other (p := ⟨r, 0, none⟩) hro _).set_other (p := ⟨r, 1, none⟩) hro _).set_other (p := ⟨r, 2, none⟩) hro _).icr
      · exact HA.out.fresh _ (by have := HX.out.rlo; omega)
      · exact (HX.out.fin _ _ _).1
      · exact (HX.out.fin _ _ _).2
/-- Two drawn discs. -/
structure Disc2 (B : Nat) (n f : Nat) (aS : Option Addr) (zs : List Int) (w : World) : Prop where
  len : zs.length = n
  row : SlR w aS n (ic zs)
  fresh : Fresh B aS n
  ok : discOkB n f zs = true
  five : ∀ j, j < n → zs.getD j 0 ≤ 5
theorem Disc2.below {B n f : Nat} {aS : Option Addr} {zs : List Int} {w w' : World} (h : Disc2 B n f aS zs w) (hb : Below w.heap.size w w') : Disc2 B n f aS zs w' := ⟨h.len, h.row.below hb, h.fresh, h.ok, h.five⟩
theorem Disc2.two {B n f : Nat} {aS : Option Addr} {zs : List Int} {w : World} (h : Disc2 B n f aS zs w) : 2 ≤ n ∧ n ≤ 24 ∧ f < n := by
  obtain ⟨⟨q1, q2, q3, q4, q5⟩, _⟩ := discOk_iff.1 h.ok
  omega
theorem SlR.set_low {w : World} {B N : Nat} {a : Option Addr} {c : Nat → Value} (h : SlR w a N c) (hf : Fresh B a N) {p : Addr} (hp : p.block < B) (v : Value) : SlR (w.setCell p v) a N c := by
  rcases h with h | ⟨g, rfl, hr⟩
  · exact .inl h
  · rcases hf with hf | ⟨g', hg, hB⟩
    · exact .inl hf
    · simp only [Option.some.injEq, Addr.mk.injEq, and_true] at hg
      subst hg
      exact .inr ⟨g, rfl, hr.set_other (by omega) v⟩
theorem Disc2.set {B n f : Nat} {aS : Option Addr} {zs : List Int} {w : World} (h : Disc2 B n f aS zs w) {p : Addr} (hp : p.block < B) (v : Value) : Disc2 B n f aS zs (w.setCell p v) := ⟨h.len, h.row.set_low h.fresh hp v, h.fresh, h.ok, h.five⟩
theorem Disc2.mono {B B' n f : Nat} {aS : Option Addr} {zs : List Int} {w : World} (h : Disc2 B n f aS zs w) (hB : B' ≤ B) : Disc2 B' n f aS zs w := ⟨h.len, h.row, h.fresh.mono hB, h.ok, h.five⟩
theorem Disc2.only {B C b n f : Nat} {aS : Option Addr} {zs : List Int} {w w' : World} (h : Disc2 B n f aS zs w) (ho : OnlyB b w w') (hf : Fresh C aS n) (hb : b < C) : Disc2 B n f aS zs w' :=
  ⟨h.len, ho.sl h.row (fun x hx hn => by
    rcases hf with h0 | ⟨g, hg, hB⟩
    · exact absurd h0 hn
    · rw [hx] at hg
      simp only [Option.some.injEq] at hg
      subst hg
      show g ≠ b
      omega), h.fresh, h.ok, h.five⟩
def DraP (w : World) (e : Ending) (w' : World) : Prop :=
  ∃ (n f : Nat) (aS : Option Addr) (cS : Nat) (zs : List Int) (m f' : Nat) (aT : Option Addr) (cT : Nat) (ys : List Int), e = .returned (.tuple #[.agg #[.int .i64 n, .int .i64 f, .slice aS n cS], .agg #[.int .i64 m, .int .i64 f', .slice aT m cT]]) ∧ Disc2 w.heap.size n f aS zs w' ∧ Disc2 w.heap.size m f' aT ys w' ∧ Below w.heap.size w w'
set_option maxHeartbeats 1600000 in
theorem discs_any (a : Option Addr) (l c : Nat) (w : World) (hm : l ≤ 1048576) (hY : Bytes w a l) :
    Calls Try.prog 7 #[.slice a l c] w (DraP w) := by
  obtain ⟨Pr, Qr⟩ := rows2 w (.int .i64 0) (.int .i64 0) (.slice none 0 0) (.int .i64 0) (.int .i64 0) (.slice none 0 0) 26 26
  have B0 : Below w.heap.size w ((w.alloc (.cells #[.int .i64 0, .int .i64 0, .slice none 0 0] 26)).alloc (.cells #[.int .i64 0, .int .i64 0, .slice none 0 0] 26)) := (by (repeat' (first | exact Below.refl _ _ | refine Below.drew ?_ | refine Below.setCell ?_ ?_ _ | refine Below.alloc ?_ ?_ _)) <;> (first | (simp; done) | (simp; omega)))
  have HY := Lib.hid (hY.below B0)
  have P0 := Lib.hid Pr
  have Q0 := Lib.hid Qr
  have HB0 := Lib.hid B0
  clear Pr Qr hY B0
  go_enter Try.func7, Try.ntmps7
  go_wp2_with fail
  refine (new_any a l c _ hm HY.out).mono ?_
  rintro e w1 ⟨b, rfl, hb, hD, hBe⟩
  simp only [World.size_alloc] at hb
  have HD := Lib.hid hD
  have P1 := Lib.hid (P0.out.below hBe P0.out.lt)
  have Q1 := Lib.hid (Q0.out.below hBe Q0.out.lt)
  have HB1 := Lib.hid (HB0.out.trans (hBe.mono HB0.out.size))
  have z1 := hBe.size
  simp only [World.size_alloc] at z1
  clear hD hBe P0 Q0
  go_wp2_with fail
  refine (disc_any b a l c _ HD.out).mono ?_
  rintro e w2 ⟨n, f, aS, cS, zs, rfl, hl, hr, hfr, ⟨hok, h5⟩, hD2, hO2⟩
  have D2 : Hid (Disc2 (w.heap.size + 2) n f aS zs w2) := Lib.hid ⟨hl, hr, hfr.mono (by omega), hok, h5⟩
  have HFR : Hid (Fresh w1.heap.size aS n) := Lib.hid hfr
  have hb1 := HD.out.lt
  have z2 := hO2.size
  have P2 := Lib.hid (hO2.row P1.out (by omega))
  have Q2 := Lib.hid (hO2.row Q1.out (by omega))
  have HB2 := Lib.hid (HB1.out.trans (hO2.toBelow (B := w.heap.size) (by omega) (by omega)))
  have bW : Below w2.heap.size w2 (w2.alloc (.cells #[.int .i64 n, .int .i64 f, .slice aS n cS] 26)).drew := (Below.box _ _).drew
  have HD3 := Lib.hid (hD2.below bW)
  have P3 := Lib.hid (P2.out.below bW P2.out.lt)
  have Q3 := Lib.hid (Q2.out.below bW Q2.out.lt)
  have D3 := Lib.hid (D2.out.below bW)
  have R3 := Lib.hid ((Row.new3 w2 (.int .i64 n) (.int .i64 f) (.slice aS n cS) 26).drew)
  have HB3 := Lib.hid (HB2.out.trans (bW.mono HB2.out.size))
  have z3 := bW.size
  clear hl hr hfr hok h5 hD2 hO2 bW P1 Q1 P2 Q2 HB1 HB2 D2 HD
  obtain ⟨x0, x1, x2⟩ : _ ∧ _ ∧ _ := ⟨R3.out.cell (i := 0) (by omega), R3.out.cell (i := 1) (by omega), R3.out.cell (i := 2) (by omega)⟩
  unfold tri at x0 x1 x2
  simp at x0 x1 x2
  go_wp2_with fail
  go_region_law (go_simp; go_at_call 23; refine (disc_any b a l c _ HD3.out).mono ?_; rintro e w3 ⟨m, f', aT, cT, ys, rfl, hl, hr, hfr, ⟨hok, h5⟩, hD2, hO2⟩; have P4 := Lib.hid (hO2.row P3.out (by omega)); have Q4 := Lib.hid (hO2.row Q3.out (by omega)); have R4 := Lib.hid (hO2.row R3.out (by omega)); have DT := Lib.hid (⟨hl, hr, hfr.mono (by omega), hok, h5⟩ : Disc2 (w.heap.size + 2) m f' aT ys w3); have DS := Lib.hid (D3.out.only hO2 HFR.out hb1); have HB4 := Lib.hid (HB3.out.trans (hO2.toBelow (B := w.heap.size) (by omega) (by omega))); obtain ⟨⟨p0, p1, p2⟩, g0, g1, g2⟩ := P4.out.tri3; obtain ⟨⟨q0, q1, q2⟩, h0, h1, h2⟩ := Q4.out.tri3; obtain ⟨⟨y0, y1, y2⟩, _⟩ := R4.out.tri3; clear hl hr hfr hok h5 hD2 hO2)
  all_goals
    go_wp2
    refine bodyPost_ret (v := .tuple #[.agg #[.int .i64 n, .int .i64 f, .slice aS n cS], .agg #[.int .i64 m, .int .i64 f', .slice aT m cT]]) (by simp [results, Try.results7, go_sem, p0, p1, p2, q0, q1, q2]) rfl ⟨n, f, aS, cS, zs, m, f', aT, cT, ys, rfl, Disc2.mono (B := w.heap.size + 2) ?_ (by omega), Disc2.mono (B := w.heap.size + 2) ?_ (by omega), ?_⟩
    · exact ((((((DS.out.set (p := ⟨w.heap.size, 0, none⟩) (by simp) _).set (p := ⟨w.heap.size, 1, none⟩) (by simp) _).set (p := ⟨w.heap.size, 2, none⟩) (by simp) _).set (p := ⟨w.heap.size + 1, 0, none⟩) (by simp) _).set (p := ⟨w.heap.size + 1, 1, none⟩) (by simp) _).set (p := ⟨w.heap.size + 1, 2, none⟩) (by simp) _)
    · exact ((((((DT.out.set (p := ⟨w.heap.size, 0, none⟩) (by simp) _).set (p := ⟨w.heap.size, 1, none⟩) (by simp) _).set (p := ⟨w.heap.size, 2, none⟩) (by simp) _).set (p := ⟨w.heap.size + 1, 0, none⟩) (by simp) _).set (p := ⟨w.heap.size + 1, 1, none⟩) (by simp) _).set (p := ⟨w.heap.size + 1, 2, none⟩) (by simp) _)
    · exact (((((HB4.out.setCell (p := ⟨w.heap.size, 0, none⟩) (by simp) _).setCell (p := ⟨w.heap.size, 1, none⟩) (by simp) _).setCell (p := ⟨w.heap.size, 2, none⟩) (by simp) _).setCell (p := ⟨w.heap.size + 1, 0, none⟩) (by simp) _).setCell (p := ⟨w.heap.size + 1, 1, none⟩) (by simp) _).setCell (p := ⟨w.heap.size + 1, 2, none⟩) (by simp) _
end Go.Proofs.Ytpafclfonclcdaa
