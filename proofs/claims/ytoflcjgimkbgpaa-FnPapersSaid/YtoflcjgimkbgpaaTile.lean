/-
  Contracts of TileCount and WeightOf in the program and in the reference.
  By an AI agent.
-/
import Derived.Test.YtoflcjgimkbgpaaCard
import Derived.Test.YtoflcjgimkbgpaaPaper
import Derived.Deep.RegionHeld3
namespace Go.Proofs.Ytoflcjgimkbgpaa
open Go.ChangeShapes Go.WideShapes Go.ChangeAt Go.RowKit Go.Joins Go.Deep
set_option maxRecDepth 100000
set_option linter.unusedVariables false

def tiles (d f : Int) (ss : List ByteArray) : Int := if cardOkB d f ss = true then ss.length * (d + f) else -1
theorem tile_bd {n h : Int} (h1 : 1 ≤ n) (h2 : n ≤ 10) (h3 : 2 ≤ h) (h4 : h ≤ 16) : 0 ≤ n * h ∧ n * h ≤ 160 := by
  refine ⟨Int.mul_nonneg (by omega) (by omega), ?_⟩
  have := Int.mul_le_mul h2 h4 (by omega) (by omega)
  omega
theorem tiles_bd (d f : Int) (ss : List ByteArray) : -1 ≤ tiles d f ss ∧ tiles d f ss ≤ 160 := by
  unfold tiles
  split
  · rename_i h
    obtain ⟨⟨q1, q2, q3, q4, q5, q6⟩, _⟩ := cardOk_iff.1 h
    obtain ⟨a, b⟩ := tile_bd (n := ss.length) (h := d + f) (by omega) (by omega) (by omega) (by omega)
    omega
  · omega
theorem iTileCount_any (d f : Int) (a : Option Addr) (n c : Nat) (ss : List ByteArray) (w : World) (hl : ss.length = n) (hm : (n : Int) + tot ss n ≤ 1048576) (hR : SlR w a n (sc ss)) :
    Calls Try.prog 65 #[.agg #[.int .i64 d, .int .i64 f, .slice a n c]] w fun e w' => e = .returned (.int .i64 (tiles d f ss)) ∧ Below w.heap.size w w' := by
  have HB0 := Lib.hid ((Below.refl w.heap.size w).alloc (Nat.le_refl _) (.cells #[.int .i64 d, .int .i64 f, .slice a n c] 26 (0, 0)))
  have HR := Lib.hid (hR.below HB0.out)
  have HL := Lib.hid hl
  unfold tiles
  cases hok : cardOkB d f ss
  · have HOK := Lib.hid hok
    clear hR hl hok
    go_enter Try.func65, Try.ntmps65
    go_wp2_with (go_at_call 57; refine (iCardOk_any _ _ _ _ _ _ _ HL.out hm HR.out).mono ?_; rw [HOK.out]; rintro e w1 ⟨rfl, hb⟩)
    go_ret
    exact ⟨rfl, HB0.out.trans (hb.mono (by simp))⟩
  · obtain ⟨⟨q1, q2, q3, q4, q5, q6⟩, _⟩ := cardOk_iff.1 hok
    rw [if_pos rfl, hl]
    have n1 : 1 ≤ n := by omega
    have n2 : n ≤ 10 := by omega
    obtain ⟨m1, m2⟩ := tile_bd (n := n) (h := d + f) (by omega) (by omega) (by omega) (by omega)
    have HOK := Lib.hid hok
    clear hR hl hok q5 q6
    go_enter Try.func65, Try.ntmps65
    go_wp2_with (go_at_call 57; refine (iCardOk_any _ _ _ _ _ _ _ HL.out hm HR.out).mono ?_; rw [HOK.out]; rintro e w1 ⟨rfl, hb⟩; obtain ⟨b0, b1, b2⟩ := box3 hb)
    go_ret
    exact ⟨rfl, HB0.out.trans (hb.mono (by simp))⟩
theorem sTileCount_any (d f : Int) (a : Option Addr) (n c : Nat) (ss : List ByteArray) (w : World) (hl : ss.length = n) (hm : (n : Int) + tot ss n ≤ 1048576) (hR : SlR w a n (sc ss)) :
    Calls Try.prog 30 #[.agg #[.int .i64 d, .int .i64 f, .slice a n c]] w fun e w' => e = .returned (.int .i64 (tiles d f ss)) ∧ Below w.heap.size w w' := by
  have HB0 := Lib.hid ((Below.refl w.heap.size w).alloc (Nat.le_refl _) (.cells #[.int .i64 d, .int .i64 f, .slice a n c] 26 (0, 0)))
  have HR := Lib.hid (hR.below HB0.out)
  have HL := Lib.hid hl
  unfold tiles
  cases hok : cardOkB d f ss
  · have HOK := Lib.hid hok
    clear hR hl hok
    go_enter Try.func30, Try.ntmps30
    go_wp2_with (go_at_call 66; refine (sCardOk_any _ _ _ _ _ _ _ HL.out hm HR.out).mono ?_; rw [HOK.out]; rintro e w1 ⟨rfl, hb⟩)
    go_ret
    exact ⟨rfl, HB0.out.trans (hb.mono (by simp))⟩
  · obtain ⟨⟨q1, q2, q3, q4, q5, q6⟩, _⟩ := cardOk_iff.1 hok
    rw [if_pos rfl, hl]
    have n1 : 1 ≤ n := by omega
    have n2 : n ≤ 10 := by omega
    obtain ⟨m1, m2⟩ := tile_bd (n := n) (h := d + f) (by omega) (by omega) (by omega) (by omega)
    have HOK := Lib.hid hok
    clear hR hl hok q5 q6
    go_enter Try.func30, Try.ntmps30
    go_wp2_with (go_at_call 66; refine (sCardOk_any _ _ _ _ _ _ _ HL.out hm HR.out).mono ?_; rw [HOK.out]; rintro e w1 ⟨rfl, hb⟩; obtain ⟨b0, b1, b2⟩ := box3 hb)
    go_ret
    exact ⟨rfl, HB0.out.trans (hb.mono (by simp))⟩

def weightOf (d f : Int) (ss : List ByteArray) (k g s : Int) : Int := if cardOkB d f ss = true ∧ paperOkB k g s = true then tiles d f ss * g else -1
theorem mul_bd {t g : Int} (h1 : -1 ≤ t) (h2 : t ≤ 160) (h3 : 40 ≤ g) (h4 : g ≤ 400) : -400 ≤ t * g ∧ t * g ≤ 64000 := by
  have h5 : t = -1 ∨ 0 ≤ t := by omega
  rcases h5 with rfl | h5
  · omega
  · have := Int.mul_le_mul h2 h4 (by omega) (by omega)
    have := Int.mul_nonneg h5 (show 0 ≤ g by omega)
    omega
theorem two_boxes (w : World) (x y z x' y' z' : Value) (e e' : TypeId) (a : Option Addr) (n : Nat) (cc : Nat → Value) (hR : SlR w a n cc) :
    CS w w.heap.size x y z (w.heap.size + 1) x' y' z' a n cc ((w.alloc (.cells #[x, y, z] e (0, 0))).alloc (.cells #[x', y', z'] e' (0, 0))) := by
  have b1 := Below.box w (.cells #[x, y, z] e (0, 0))
  have b2 := Below.box (w.alloc (.cells #[x, y, z] e (0, 0))) (.cells #[x', y', z'] e' (0, 0))
  have q := SlR.box (w.alloc (.cells #[x, y, z] e (0, 0))) x' y' z' e'
  have hs : (w.alloc (.cells #[x, y, z] e (0, 0))).heap.size = w.heap.size + 1 := by simp
  rw [hs] at q
  exact CS.mk (b1.trans (b2.mono b1.size)) ((hR.below b1).below b2) ((SlR.box w x y z e).below b2) q
theorem iWeightOf_no (d f : Int) (a : Option Addr) (n c : Nat) (ss : List ByteArray) (k g s : Int) (w : World) (hl : ss.length = n) (hm : (n : Int) + tot ss n ≤ 1048576) (hR : SlR w a n (sc ss)) (ho : cardOkB d f ss = false) :
    Calls Try.prog 29 #[.agg #[.int .i64 d, .int .i64 f, .slice a n c], .agg #[.int .i64 k, .int .i64 g, .int .i64 s]] w fun e w' => e = .returned (.int .i64 (-1)) ∧ Below w.heap.size w w' := by
  have HC := Lib.hid (two_boxes w (.int .i64 d) (.int .i64 f) (.slice a n c) (.int .i64 k) (.int .i64 g) (.int .i64 s) 26 43 a n (sc ss) hR)
  have HL := Lib.hid hl
  have HO := Lib.hid ho
  clear hR hl ho
  go_enter Try.func29, Try.ntmps29
  go_wp2_with (go_at_call 57; refine (iCardOk_any _ _ _ _ _ _ _ HL.out hm HC.out.2.out.2.1).mono ?_; rw [HO.out]; rintro e w1 ⟨rfl, hb⟩)
  go_ret
  exact ⟨rfl, (HC.out.next hb).2.out.1⟩
theorem iWeightOf_no' (d f : Int) (a : Option Addr) (n c : Nat) (ss : List ByteArray) (k g s : Int) (w : World) (hl : ss.length = n) (hm : (n : Int) + tot ss n ≤ 1048576) (hR : SlR w a n (sc ss)) (ho : cardOkB d f ss = true) (hp : paperOkB k g s = false) :
    Calls Try.prog 29 #[.agg #[.int .i64 d, .int .i64 f, .slice a n c], .agg #[.int .i64 k, .int .i64 g, .int .i64 s]] w fun e w' => e = .returned (.int .i64 (-1)) ∧ Below w.heap.size w w' := by
  have HC := Lib.hid (two_boxes w (.int .i64 d) (.int .i64 f) (.slice a n c) (.int .i64 k) (.int .i64 g) (.int .i64 s) 26 43 a n (sc ss) hR)
  have HL := Lib.hid hl
  have HO := Lib.hid ho
  have HP := Lib.hid hp
  clear hR hl ho hp
  go_enter Try.func29, Try.ntmps29
  go_wp2_with (first | (go_at_call 57; refine (iCardOk_any _ _ _ _ _ _ _ HL.out hm HC.out.2.out.2.1).mono ?_; rw [HO.out]; rintro e w1 ⟨rfl, hb⟩; have HC1 := Lib.hid (HC.out.next hb); obtain ⟨b0, b1, b2, d0, d1, d2⟩ := HC1.out.1; clear hb) | (go_at_call 27; refine (iPaperOk_f _ _ _ _ HP.out).mono ?_; rintro e w2 ⟨rfl, hb2⟩))
  go_ret
  exact ⟨rfl, (HC1.out.next hb2).2.out.1⟩
set_option maxHeartbeats 1000000 in
theorem iWeightOf_yes (d f : Int) (a : Option Addr) (n c : Nat) (ss : List ByteArray) (k g s : Int) (w : World) (hl : ss.length = n) (hm : (n : Int) + tot ss n ≤ 1048576) (hR : SlR w a n (sc ss)) (ho : cardOkB d f ss = true) (hp : paperOkB k g s = true) :
    Calls Try.prog 29 #[.agg #[.int .i64 d, .int .i64 f, .slice a n c], .agg #[.int .i64 k, .int .i64 g, .int .i64 s]] w fun e w' => e = .returned (.int .i64 (tiles d f ss * g)) ∧ Below w.heap.size w w' := by
  have HC := Lib.hid (two_boxes w (.int .i64 d) (.int .i64 f) (.slice a n c) (.int .i64 k) (.int .i64 g) (.int .i64 s) 26 43 a n (sc ss) hR)
  have HL := Lib.hid hl
  have HO := Lib.hid ho
  have HP := Lib.hid hp
  obtain ⟨_, _, g1, g2, _, _⟩ := paperOk_iff.1 hp
  obtain ⟨t1, t2⟩ := tiles_bd d f ss
  obtain ⟨m1, m2⟩ := mul_bd t1 t2 g1 g2
  clear hR hl ho hp
  go_enter Try.func29, Try.ntmps29
  go_wp2_with (first | (go_at_call 57; refine (iCardOk_any _ _ _ _ _ _ _ HL.out hm HC.out.2.out.2.1).mono ?_; rw [HO.out]; rintro e w1 ⟨rfl, hb⟩; have HC1 := Lib.hid (HC.out.next hb); obtain ⟨b0, b1, b2, d0, d1, d2⟩ := HC1.out.1; clear hb) | (go_at_call 27; refine (iPaperOk_t _ _ _ _ HP.out).mono ?_; rintro e w2 ⟨rfl, hb2⟩))
  have HSd := Lib.hid ((HC1.out.next hb2).next ((Below.refl _ _).drew))
  clear hb2 b0 b1 b2 d0 d1 d2
  have s3 : IntKind.i64.wrap (tiles d f ss * g) = tiles d f ss * g := IntWalk.i64_in _ (by omega)
  go_region_held3 (fun w' => (w'.cell? ⟨w.heap.size, 0, none⟩ = some (.int .i64 d) ∧ w'.cell? ⟨w.heap.size, 1, none⟩ = some (.int .i64 f) ∧ w'.cell? ⟨w.heap.size, 2, none⟩ = some (.slice a n c) ∧ w'.cell? ⟨w.heap.size + 1, 0, none⟩ = some (.int .i64 k) ∧ w'.cell? ⟨w.heap.size + 1, 1, none⟩ = some (.int .i64 g) ∧ w'.cell? ⟨w.heap.size + 1, 2, none⟩ = some (.int .i64 s)) ∧
      Hid (Below w.heap.size w w' ∧ SlR w' a n (sc ss) ∧ SlR w' (some ⟨w.heap.size, 0, none⟩) 3 (tri (.int .i64 d) (.int .i64 f) (.slice a n c)) ∧ SlR w' (some ⟨w.heap.size + 1, 0, none⟩) 3 (tri (.int .i64 k) (.int .i64 g) (.int .i64 s))))
    (first | exact hS2.out | exact HSd.out | (go_keep; done))
    (first | (go_at_call 65; refine (iTileCount_any d f a n c ss _ HL.out hm (show CS w w.heap.size (.int .i64 d) (.int .i64 f) (.slice a n c) (w.heap.size + 1) (.int .i64 k) (.int .i64 g) (.int .i64 s) a n (sc ss) _ from by assumption).2.out.2.1).mono ?_; rintro e w2 ⟨rfl, bZ⟩; have hS2 := Lib.hid (CS.next (show CS w w.heap.size (.int .i64 d) (.int .i64 f) (.slice a n c) (w.heap.size + 1) (.int .i64 k) (.int .i64 g) (.int .i64 s) a n (sc ss) _ from by assumption) bZ); clear bZ))
  have HX := Lib.hid hS2.out.2.out.1
  clear hS2 s3
  go_wp2
  go_ret
  exact ⟨rfl, HX.out⟩
theorem iWeightOf_any (d f : Int) (a : Option Addr) (n c : Nat) (ss : List ByteArray) (k g s : Int) (w : World) (hl : ss.length = n) (hm : (n : Int) + tot ss n ≤ 1048576) (hR : SlR w a n (sc ss)) :
    Calls Try.prog 29 #[.agg #[.int .i64 d, .int .i64 f, .slice a n c], .agg #[.int .i64 k, .int .i64 g, .int .i64 s]] w fun e w' => e = .returned (.int .i64 (weightOf d f ss k g s)) ∧ Below w.heap.size w w' := by
  unfold weightOf
  cases ho : cardOkB d f ss
  · exact iWeightOf_no d f a n c ss k g s w hl hm hR ho
  · cases hp : paperOkB k g s
    · exact iWeightOf_no' d f a n c ss k g s w hl hm hR ho hp
    · rw [if_pos ⟨rfl, rfl⟩]; exact iWeightOf_yes d f a n c ss k g s w hl hm hR ho hp
theorem sWeightOf_no (d f : Int) (a : Option Addr) (n c : Nat) (ss : List ByteArray) (k g s : Int) (w : World) (hl : ss.length = n) (hm : (n : Int) + tot ss n ≤ 1048576) (hR : SlR w a n (sc ss)) (ho : cardOkB d f ss = false) :
    Calls Try.prog 54 #[.agg #[.int .i64 d, .int .i64 f, .slice a n c], .agg #[.int .i64 k, .int .i64 g, .int .i64 s]] w fun e w' => e = .returned (.int .i64 (-1)) ∧ Below w.heap.size w w' := by
  have HC := Lib.hid (two_boxes w (.int .i64 d) (.int .i64 f) (.slice a n c) (.int .i64 k) (.int .i64 g) (.int .i64 s) 26 43 a n (sc ss) hR)
  have HL := Lib.hid hl
  have HO := Lib.hid ho
  clear hR hl ho
  go_enter Try.func54, Try.ntmps54
  go_wp2_with (go_at_call 66; refine (sCardOk_any _ _ _ _ _ _ _ HL.out hm HC.out.2.out.2.1).mono ?_; rw [HO.out]; rintro e w1 ⟨rfl, hb⟩)
  go_ret
  exact ⟨rfl, (HC.out.next hb).2.out.1⟩
theorem sWeightOf_no' (d f : Int) (a : Option Addr) (n c : Nat) (ss : List ByteArray) (k g s : Int) (w : World) (hl : ss.length = n) (hm : (n : Int) + tot ss n ≤ 1048576) (hR : SlR w a n (sc ss)) (ho : cardOkB d f ss = true) (hp : paperOkB k g s = false) :
    Calls Try.prog 54 #[.agg #[.int .i64 d, .int .i64 f, .slice a n c], .agg #[.int .i64 k, .int .i64 g, .int .i64 s]] w fun e w' => e = .returned (.int .i64 (-1)) ∧ Below w.heap.size w w' := by
  have HC := Lib.hid (two_boxes w (.int .i64 d) (.int .i64 f) (.slice a n c) (.int .i64 k) (.int .i64 g) (.int .i64 s) 26 43 a n (sc ss) hR)
  have HL := Lib.hid hl
  have HO := Lib.hid ho
  have HP := Lib.hid hp
  clear hR hl ho hp
  go_enter Try.func54, Try.ntmps54
  go_wp2_with (first | (go_at_call 66; refine (sCardOk_any _ _ _ _ _ _ _ HL.out hm HC.out.2.out.2.1).mono ?_; rw [HO.out]; rintro e w1 ⟨rfl, hb⟩; have HC1 := Lib.hid (HC.out.next hb); obtain ⟨b0, b1, b2, d0, d1, d2⟩ := HC1.out.1; clear hb) | (go_at_call 73; refine (sPaperOk_f _ _ _ _ HP.out).mono ?_; rintro e w2 ⟨rfl, hb2⟩))
  go_ret
  exact ⟨rfl, (HC1.out.next hb2).2.out.1⟩
set_option maxHeartbeats 1000000 in
theorem sWeightOf_yes (d f : Int) (a : Option Addr) (n c : Nat) (ss : List ByteArray) (k g s : Int) (w : World) (hl : ss.length = n) (hm : (n : Int) + tot ss n ≤ 1048576) (hR : SlR w a n (sc ss)) (ho : cardOkB d f ss = true) (hp : paperOkB k g s = true) :
    Calls Try.prog 54 #[.agg #[.int .i64 d, .int .i64 f, .slice a n c], .agg #[.int .i64 k, .int .i64 g, .int .i64 s]] w fun e w' => e = .returned (.int .i64 (tiles d f ss * g)) ∧ Below w.heap.size w w' := by
  have HC := Lib.hid (two_boxes w (.int .i64 d) (.int .i64 f) (.slice a n c) (.int .i64 k) (.int .i64 g) (.int .i64 s) 26 43 a n (sc ss) hR)
  have HL := Lib.hid hl
  have HO := Lib.hid ho
  have HP := Lib.hid hp
  obtain ⟨_, _, g1, g2, _, _⟩ := paperOk_iff.1 hp
  obtain ⟨t1, t2⟩ := tiles_bd d f ss
  obtain ⟨m1, m2⟩ := mul_bd t1 t2 g1 g2
  clear hR hl ho hp
  go_enter Try.func54, Try.ntmps54
  go_wp2_with (first | (go_at_call 66; refine (sCardOk_any _ _ _ _ _ _ _ HL.out hm HC.out.2.out.2.1).mono ?_; rw [HO.out]; rintro e w1 ⟨rfl, hb⟩; have HC1 := Lib.hid (HC.out.next hb); obtain ⟨b0, b1, b2, d0, d1, d2⟩ := HC1.out.1; clear hb) | (go_at_call 73; refine (sPaperOk_t _ _ _ _ HP.out).mono ?_; rintro e w2 ⟨rfl, hb2⟩))
  have HSd := Lib.hid ((HC1.out.next hb2).next ((Below.refl _ _).drew))
  clear hb2 b0 b1 b2 d0 d1 d2
  have s3 : IntKind.i64.wrap (tiles d f ss * g) = tiles d f ss * g := IntWalk.i64_in _ (by omega)
  go_region_held3 (fun w' => (w'.cell? ⟨w.heap.size, 0, none⟩ = some (.int .i64 d) ∧ w'.cell? ⟨w.heap.size, 1, none⟩ = some (.int .i64 f) ∧ w'.cell? ⟨w.heap.size, 2, none⟩ = some (.slice a n c) ∧ w'.cell? ⟨w.heap.size + 1, 0, none⟩ = some (.int .i64 k) ∧ w'.cell? ⟨w.heap.size + 1, 1, none⟩ = some (.int .i64 g) ∧ w'.cell? ⟨w.heap.size + 1, 2, none⟩ = some (.int .i64 s)) ∧
      Hid (Below w.heap.size w w' ∧ SlR w' a n (sc ss) ∧ SlR w' (some ⟨w.heap.size, 0, none⟩) 3 (tri (.int .i64 d) (.int .i64 f) (.slice a n c)) ∧ SlR w' (some ⟨w.heap.size + 1, 0, none⟩) 3 (tri (.int .i64 k) (.int .i64 g) (.int .i64 s))))
    (first | exact hS2.out | exact HSd.out | (go_keep; done))
    (first | (go_at_call 30; refine (sTileCount_any d f a n c ss _ HL.out hm (show CS w w.heap.size (.int .i64 d) (.int .i64 f) (.slice a n c) (w.heap.size + 1) (.int .i64 k) (.int .i64 g) (.int .i64 s) a n (sc ss) _ from by assumption).2.out.2.1).mono ?_; rintro e w2 ⟨rfl, bZ⟩; have hS2 := Lib.hid (CS.next (show CS w w.heap.size (.int .i64 d) (.int .i64 f) (.slice a n c) (w.heap.size + 1) (.int .i64 k) (.int .i64 g) (.int .i64 s) a n (sc ss) _ from by assumption) bZ); clear bZ))
  have HX := Lib.hid hS2.out.2.out.1
  clear hS2 s3
  go_wp2
  go_ret
  exact ⟨rfl, HX.out⟩
theorem sWeightOf_any (d f : Int) (a : Option Addr) (n c : Nat) (ss : List ByteArray) (k g s : Int) (w : World) (hl : ss.length = n) (hm : (n : Int) + tot ss n ≤ 1048576) (hR : SlR w a n (sc ss)) :
    Calls Try.prog 54 #[.agg #[.int .i64 d, .int .i64 f, .slice a n c], .agg #[.int .i64 k, .int .i64 g, .int .i64 s]] w fun e w' => e = .returned (.int .i64 (weightOf d f ss k g s)) ∧ Below w.heap.size w w' := by
  unfold weightOf
  cases ho : cardOkB d f ss
  · exact sWeightOf_no d f a n c ss k g s w hl hm hR ho
  · cases hp : paperOkB k g s
    · exact sWeightOf_no' d f a n c ss k g s w hl hm hR ho hp
    · rw [if_pos ⟨rfl, rfl⟩]; exact sWeightOf_yes d f a n c ss k g s w hl hm hR ho hp
end Go.Proofs.Ytoflcjgimkbgpaa
