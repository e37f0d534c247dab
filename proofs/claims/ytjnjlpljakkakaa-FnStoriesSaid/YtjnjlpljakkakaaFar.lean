/-
  Contract of l24Far in the reference. Written by a program of mine.
  By an AI agent.
-/
import Derived.Test.YtjnjlpljakkakaaEndsB
import Derived.Test.YtjnjlpljakkakaaTalesS
namespace Go.Proofs.Ytjnjlpljakkakaa
open Go.ChangeShapes Go.WideShapes Go.ChangeAt Go.RowKit Go.Joins Go.Deep
set_option maxRecDepth 100000
set_option linter.unusedVariables false

def FarP (n : Nat) (L : Rows) (X : Nat → Prop) (m : Bool) (w : World) (e : Ending) (w' : World) : Prop :=
  ∃ (g c : Nat) (f : Nat → Int), e = .returned (.slice (some ⟨g, 0, none⟩) n c) ∧ Row w' g n (nc f) ∧ Snd n L f ∧ (∀ p, p < n → Cpl n L X m n p f) ∧ Below w.heap.size w w'
def new0 (L : Rows) (k : Nat) : List Int := (List.range k).map fun p => if lenN L p = 0 then 0 else -1
theorem new0_succ (L : Rows) (k : Nat) : new0 L (k + 1) = new0 L k ++ [if lenN L k = 0 then 0 else -1] := by unfold new0; rw [List.range_succ, List.map_append]; rfl
theorem stp_yes {n : Nat} {m : Bool} {x y : Int} (h : upd n m x y = true) : stp n m x y = x + 1 := by unfold stp; rw [if_pos h]
theorem stp_no {n : Nat} {m : Bool} {x y : Int} (h : upd n m x y = false) : stp n m x y = y := by unfold stp; rw [h]; rfl
set_option maxHeartbeats 8000000 in
theorem far_false (a : Option Addr) (n c : Nat) (L : Rows) (X : Nat → Prop) (w : World) (hs : storyOk n L) (hR : RSt w a n L) (hXE : ∀ p y, X p → edge L p y → X y) (hbd : false = true → ∀ p, p < n → X p → ∀ j, E L j p → j < n) :
    Calls Try.prog 49 #[.agg #[.slice a n c], .bool false] w (FarP n L X false w) := by
  have HS := Lib.hid hs
  have HXE := Lib.hid hXE
  have HBD := Lib.hid hbd
  obtain ⟨n1, n16⟩ := hs.1
  have hb0 := Below.box w (.cells #[.slice a n c] 27 (0, 0))
  have HB0 := Lib.hid hb0
  have HR0 := Lib.hid (hR.below hb0)
  have hsz : (w.alloc (.cells #[.slice a n c] 27 (0, 0))).heap.size = w.heap.size + 1 := by simp
  have hc0 : (w.alloc (.cells #[.slice a n c] 27 (0, 0))).cell? ⟨w.heap.size, 0, none⟩ = some (.slice a n c) := new_cell rfl
  have HC0 := Lib.hid hc0
  clear hs hR hXE hbd hb0 hc0
  go_enter Try.func49, Try.ntmps49
  go_wp2
  have O0 := Lib.hid (Own1.empty (w.alloc (.cells #[.slice a n c] 27 (0, 0))) 3)
  have BX := Lib.hid (Below.box (w.alloc (.cells #[.slice a n c] 27 (0, 0))) (.cells #[] 3 (0, 0)))
  generalize hW : w.alloc (.cells #[.slice a n c] 27 (0, 0)) = W at *
  clear hW
  generalize hbx : w.heap.size = bx at *
  have FIN : Hid (∀ w', Below W.heap.size W w' → Below w.heap.size w w') := Lib.hid (fun w' h => by rw [hbx]; exact HB0.out.trans (h.mono (by omega)))
  clear hbx
  go_loopw [6, 7] (fun v i wr => ∃ (k g1 c1 : Nat), k ≤ n ∧ i = .int .i64 k ∧ v = .slice (some ⟨g1, 0, none⟩) k c1 ∧ Own1 wr W.heap.size 3 g1 k c1 ((new0 L k).map (Value.int .i64)) ∧ Below W.heap.size W wr) (fun _ i _ => n - (intOf i).toNat)
  case atStart => exact ⟨0, bx + 1, 0, Nat.zero_le _, rfl, rfl, by have o := O0.out; rw [hsz] at o; exact o.mono (Nat.le_of_eq hsz), BX.out⟩
  case round =>
    obtain ⟨k, g1, c1, hk, rfl, rfl, h1, hB⟩ := hrel
    rename World => w1
    have H1 := Lib.hid h1
    have HB := Lib.hid hB
    clear h1 hB
    by_cases hlt : k < n
    · obtain ⟨g, α, C, rfl, lg, r1, hC, s1⟩ := (HR0.out.below HB.out).at hlt
      have cP := (HB.out.cell (p := ⟨bx, 0, none⟩) (by show bx < _; omega)).trans HC0.out
      have hlen : lenN L k ≤ 4 := (HS.out.2 k hlt).1
      have HSU := Lib.hid (new0_succ L k)
      have hl1 := H1.out.lt
      clear s1
      generalize lenN L k = m at *
      by_cases h0 : m = 0
      · subst h0
        go_wp2_with (at_builtin; refine append_one rfl _ _ 31 rfl Try.underlying31 infoInt rfl (by omega) rfl (H1.out.alloc _) (by omega) rfl (new_cell (by simp)) rfl ?_; intro g' c' w3 o3 oo3 l3; have O3 := Lib.hid o3; have OO3 := Lib.hid oo3; clear o3 oo3 l3)
        go_roundw
        case rel =>
          have b2 := HB.out.alloc (o := .cells #[.int .i64 0] 3 (0, 0)) HB.out.size
          exact ⟨k + 1, g', c', by omega, by go_num, rfl, by rw [HSU.out, List.map_append]; exact O3.out, b2.trans (OO3.out.toBelow hl1.1 b2.size)⟩
        case measure => simp [intOf]; omega
      · have h0' : ((m : Int) == 0) = false := by simp; omega
        rw [if_neg h0] at HSU
        go_wp2_with (at_builtin; refine append_one rfl _ _ 31 rfl Try.underlying31 infoInt rfl (by omega) rfl (H1.out.alloc _) (by omega) rfl (new_cell (by simp)) rfl ?_; intro g' c' w3 o3 oo3 l3; have O3 := Lib.hid o3; have OO3 := Lib.hid oo3; clear o3 oo3 l3)
        go_roundw
        case rel =>
          have b2 := HB.out.alloc (o := .cells #[.int .i64 (-1)] 3 (0, 0)) HB.out.size
          exact ⟨k + 1, g', c', by omega, by go_num, rfl, by rw [HSU.out, List.map_append]; exact O3.out, b2.trans (OO3.out.toBelow hl1.1 b2.size)⟩
        case measure => simp [intOf]; omega
    · have hk' : k = n := by omega
      subst hk'
      have hgl := H1.out.lt
      have HR1 : Hid (Row w1 g1 k (nc (fun p => if lenN L p = 0 then 0 else -1))) := Lib.hid (H1.out.cells.congr fun i hi => by unfold ic nc new0; simp [List.getD, hi])
      have FB : Hid (∀ wr, OnlyB g1 w1 wr → Below W.heap.size W wr) := Lib.hid (fun wr h => HB.out.trans (h.toBelow hgl.1 HB.out.size))
      generalize hgg : g1 = g0 at *
      clear hgg H1
      go_wp2
      go_loopw [8] (fun i wr => ∃ (r : Nat) (f : Nat → Int), r ≤ k ∧ i = .int .i64 r ∧ Snd k L f ∧ (∀ p, p < k → Cpl k L X false r p f) ∧ Row wr g0 k (nc f) ∧ OnlyB g0 w1 wr) (fun i _ => k - (intOf i).toNat)
      case atStart => exact ⟨0, _, Nat.zero_le _, rfl, snd_new k L, fun p _ => cpl_new k L X false p, HR1.out, OnlyB.refl _ _⟩
      case round =>
        obtain ⟨r, f, hr, rfl, h1, h2, h3, h4⟩ := hrel
        have HSN := Lib.hid h1
        have HCP := Lib.hid h2
        have HR := Lib.hid h3
        have HO := Lib.hid h4
        clear h1 h2 h3 h4
        generalize hkn : k = n at *
        by_cases hlr : r < n
        · go_wp2
          go_loopw [9] (fun i wr => ∃ (p : Nat) (f : Nat → Int), p ≤ n ∧ i = .int .i64 p ∧ RI n L X false r p 0 f ∧ Row wr g0 n (nc f) ∧ OnlyB g0 w1 wr) (fun i _ => n - (intOf i).toNat)
          case atStart => exact ⟨0, _, Nat.zero_le _, rfl, RI.start HSN.out HCP.out, HR.out, HO.out⟩
          case round =>
            clear HSN HCP HR HO
            obtain ⟨k, f, hk, rfl, h1, h3, h4⟩ := hrel
            have HRI := Lib.hid h1
            have HR := Lib.hid h3
            have HO := Lib.hid h4
            clear h1 h3 h4
            by_cases hlk : k < n
            · have hlen : lenN L k ≤ 4 := (HS.out.2 k hlk).1
              generalize hm : lenN L k = ml at *
              have HM := Lib.hid hm
              clear hm
              go_wp2
              go_loopw [10] (fun i wr => ∃ (q : Nat) (f : Nat → Int), q ≤ ml ∧ i = .int .i64 q ∧ RI n L X false r k q f ∧ Row wr g0 n (nc f) ∧ OnlyB g0 w1 wr) (fun i _ => ml - (intOf i).toNat)
              case atStart => exact ⟨0, _, Nat.zero_le _, rfl, HRI.out, HR.out, HO.out⟩
              case round =>
                clear HRI HR HO
                obtain ⟨q, f, hq, rfl, h1, h3, h4⟩ := hrel
                have HRI := Lib.hid h1
                have HR := Lib.hid h3
                have HO := Lib.hid h4
                clear h1 h3 h4
                have hFB := FB.out _ HO.out
                obtain ⟨g, α, C, rfl, lg, r1, hC, s1⟩ := HR0.out.at hlk
                rw [HM.out] at r1 s1
                replace r1 := (hFB.cell (p := ⟨g, k, none⟩) lg).trans r1
                replace s1 := s1.below hFB
                have cP := (hFB.cell (p := ⟨bx, 0, none⟩) (by show bx < _; omega)).trans HC0.out
                by_cases hlq : q < ml
                · obtain ⟨g3, rfl, hr3⟩ := s1.row (by omega)
                  have c2 := hr3.cell hlq
                  unfold ic at c2
                  obtain ⟨he, hx⟩ := edge_nx HS.out hlk (q := q) (by rw [HM.out]; exact hlq)
                  rw [hx] at c2
                  have hyn := edge_lt HS.out hlk he
                  have hgg : g ≠ g0 := by have := hgl; omega
                  have HNX := Lib.hid (HRI.out.next HS.out hlk (by rw [HM.out]; exact hlq) hlr (fun h => HXE.out _ _ h he) (fun h => by cases h))
                  have c3 := HR.out.cell hyn
                  have c4 := HR.out.cell hlk
                  have f4 := HR.out.frozen k
                  unfold nc at c3 c4
                  have hsx := HRI.out.snd _ hyn
                  have hsy := HRI.out.snd _ hlk
                  have hxb : f (nx L k q) ≤ n ∧ -1 ≤ f (nx L k q) := by rcases hsx with h | ⟨h, h', _⟩ <;> omega
                  have hyb : f k ≤ n ∧ -1 ≤ f k := by rcases hsy with h | ⟨h, h', _⟩ <;> omega
                  clear hsx hsy s1 hr3 he hx hFB
                  have HY : Hid (f k = f k) := Lib.hid rfl
                  generalize nx L k q = z at *
                  generalize hxx : f z = x at *
                  generalize hyy : f k = y at *
                  replace HY : Hid (f k = y) := Lib.hid hyy
                  obtain ⟨x1, x0⟩ := hxb
                  obtain ⟨y1, y0⟩ := hyb
                  clear hxx hyy
                  have j0 : (0 : Int) ≤ (k : Int) := Int.natCast_nonneg _
                  have j1 : (k : Int) < (n : Int) := by omega
                  have j2 : (q : Int) < (ml : Int) := by omega
                  have j3 : (z : Int) < (n : Int) := by omega
                  have A : x < 0 ∨ (0 ≤ x ∧ (n : Int) ≤ x) ∨ (0 ≤ x ∧ x < n ∧ y < 0) ∨ (0 ≤ x ∧ x < n ∧ 0 ≤ y ∧ x + 1 < y) ∨ (0 ≤ x ∧ x < n ∧ 0 ≤ y ∧ x + 1 = y) ∨ (0 ≤ x ∧ x < n ∧ 0 ≤ y ∧ y < x + 1) := by omega
                  rcases A with h1 | ⟨h1, h2⟩ | ⟨h1, h2, h3⟩ | ⟨h1, h2, h3, h4⟩ | ⟨h1, h2, h3, h4⟩ | ⟨h1, h2, h3, h4⟩
                  · have hu : upd n false x y = false := by unfold upd; simp; omega
                    have HU := Lib.hid (stp_no hu)
                    clear hu
                    go_wp2
                    go_roundw
                    case rel => exact ⟨q + 1, _, by omega, by go_num, HNX.out, HR.out.congr (fun j _ => by by_cases e : j = k; (subst e; rw [HU.out, ← HY.out]; simp [nc]); simp [nc, e]), HO.out⟩
                    case measure => simp [intOf]; omega
                  · have hu : upd n false x y = false := by unfold upd; simp; omega
                    have HU := Lib.hid (stp_no hu)
                    clear hu
                    go_wp2
                    go_roundw
                    case rel => exact ⟨q + 1, _, by omega, by go_num, HNX.out, HR.out.congr (fun j _ => by by_cases e : j = k; (subst e; rw [HU.out, ← HY.out]; simp [nc]); simp [nc, e]), HO.out⟩
                    case measure => simp [intOf]; omega
                  · have hu : upd n false x y = true := by unfold upd; simp; omega
                    have HU := Lib.hid (stp_yes hu)
                    clear hu
                    go_wp2
                    go_roundw
                    case rel => exact ⟨q + 1, _, by omega, by go_num, HNX.out, by rw [HU.out]; exact nc_set HR.out, HO.out.set k _⟩
                    case measure => simp [intOf]; omega
                  · have hu : upd n false x y = true := by unfold upd; simp; omega
                    have HU := Lib.hid (stp_yes hu)
                    clear hu
                    go_wp2
                    go_roundw
                    case rel => exact ⟨q + 1, _, by omega, by go_num, HNX.out, by rw [HU.out]; exact nc_set HR.out, HO.out.set k _⟩
                    case measure => simp [intOf]; omega
                  · have hu : upd n false x y = false := by unfold upd; simp; omega
                    have HU := Lib.hid (stp_no hu)
                    clear hu
                    go_wp2
                    go_roundw
                    case rel => exact ⟨q + 1, _, by omega, by go_num, HNX.out, HR.out.congr (fun j _ => by by_cases e : j = k; (subst e; rw [HU.out, ← HY.out]; simp [nc]); simp [nc, e]), HO.out⟩
                    case measure => simp [intOf]; omega
                  · have hu : upd n false x y = false := by unfold upd; simp; omega
                    have HU := Lib.hid (stp_no hu)
                    clear hu
                    go_wp2
                    go_roundw
                    case rel => exact ⟨q + 1, _, by omega, by go_num, HNX.out, HR.out.congr (fun j _ => by by_cases e : j = k; (subst e; rw [HU.out, ← HY.out]; simp [nc]); simp [nc, e]), HO.out⟩
                    case measure => simp [intOf]; omega
                · have hq' : q = ml := by omega
                  subst hq'
                  have HRW := Lib.hid (RI.row HS.out (by rw [HM.out]; exact HRI.out) hlk)
                  go_wp2
                  go_roundw
                  case rel => exact ⟨k + 1, f, by omega, by go_num, HRW.out, HR.out, HO.out⟩
                  case measure => simp [intOf]; omega
            · have hk' : k = n := by omega
              subst hk'
              go_wp2
              go_roundw
              case rel => exact ⟨r + 1, f, by omega, by go_num, HRI.out.snd, HRI.out.finish, HR.out, HO.out⟩
              case measure => simp [intOf]; omega
        · have hr' : r = n := by omega
          subst hr'
          go_wp2
          go_ret
          exact ⟨_, _, f, rfl, HR.out, HSN.out, HCP.out, FIN.out _ (FB.out _ HO.out)⟩
set_option maxHeartbeats 8000000 in
theorem far_true (a : Option Addr) (n c : Nat) (L : Rows) (X : Nat → Prop) (w : World) (hs : storyOk n L) (hR : RSt w a n L) (hXE : ∀ p y, X p → edge L p y → X y) (hbd : true = true → ∀ p, p < n → X p → ∀ j, E L j p → j < n) :
    Calls Try.prog 49 #[.agg #[.slice a n c], .bool true] w (FarP n L X true w) := by
  have HS := Lib.hid hs
  have HXE := Lib.hid hXE
  have HBD := Lib.hid hbd
  obtain ⟨n1, n16⟩ := hs.1
  have hb0 := Below.box w (.cells #[.slice a n c] 27 (0, 0))
  have HB0 := Lib.hid hb0
  have HR0 := Lib.hid (hR.below hb0)
  have hsz : (w.alloc (.cells #[.slice a n c] 27 (0, 0))).heap.size = w.heap.size + 1 := by simp
  have hc0 : (w.alloc (.cells #[.slice a n c] 27 (0, 0))).cell? ⟨w.heap.size, 0, none⟩ = some (.slice a n c) := new_cell rfl
  have HC0 := Lib.hid hc0
  clear hs hR hXE hbd hb0 hc0
  go_enter Try.func49, Try.ntmps49
  go_wp2
  have O0 := Lib.hid (Own1.empty (w.alloc (.cells #[.slice a n c] 27 (0, 0))) 3)
  have BX := Lib.hid (Below.box (w.alloc (.cells #[.slice a n c] 27 (0, 0))) (.cells #[] 3 (0, 0)))
  generalize hW : w.alloc (.cells #[.slice a n c] 27 (0, 0)) = W at *
  clear hW
  generalize hbx : w.heap.size = bx at *
  have FIN : Hid (∀ w', Below W.heap.size W w' → Below w.heap.size w w') := Lib.hid (fun w' h => by rw [hbx]; exact HB0.out.trans (h.mono (by omega)))
  clear hbx
  go_loopw [6, 7] (fun v i wr => ∃ (k g1 c1 : Nat), k ≤ n ∧ i = .int .i64 k ∧ v = .slice (some ⟨g1, 0, none⟩) k c1 ∧ Own1 wr W.heap.size 3 g1 k c1 ((new0 L k).map (Value.int .i64)) ∧ Below W.heap.size W wr) (fun _ i _ => n - (intOf i).toNat)
  case atStart => exact ⟨0, bx + 1, 0, Nat.zero_le _, rfl, rfl, by have o := O0.out; rw [hsz] at o; exact o.mono (Nat.le_of_eq hsz), BX.out⟩
  case round =>
    obtain ⟨k, g1, c1, hk, rfl, rfl, h1, hB⟩ := hrel
    rename World => w1
    have H1 := Lib.hid h1
    have HB := Lib.hid hB
    clear h1 hB
    by_cases hlt : k < n
    · obtain ⟨g, α, C, rfl, lg, r1, hC, s1⟩ := (HR0.out.below HB.out).at hlt
      have cP := (HB.out.cell (p := ⟨bx, 0, none⟩) (by show bx < _; omega)).trans HC0.out
      have hlen : lenN L k ≤ 4 := (HS.out.2 k hlt).1
      have HSU := Lib.hid (new0_succ L k)
      have hl1 := H1.out.lt
      clear s1
      generalize lenN L k = m at *
      by_cases h0 : m = 0
      · subst h0
        go_wp2_with (at_builtin; refine append_one rfl _ _ 31 rfl Try.underlying31 infoInt rfl (by omega) rfl (H1.out.alloc _) (by omega) rfl (new_cell (by simp)) rfl ?_; intro g' c' w3 o3 oo3 l3; have O3 := Lib.hid o3; have OO3 := Lib.hid oo3; clear o3 oo3 l3)
        go_roundw
        case rel =>
          have b2 := HB.out.alloc (o := .cells #[.int .i64 0] 3 (0, 0)) HB.out.size
          exact ⟨k + 1, g', c', by omega, by go_num, rfl, by rw [HSU.out, List.map_append]; exact O3.out, b2.trans (OO3.out.toBelow hl1.1 b2.size)⟩
        case measure => simp [intOf]; omega
      · have h0' : ((m : Int) == 0) = false := by simp; omega
        rw [if_neg h0] at HSU
        go_wp2_with (at_builtin; refine append_one rfl _ _ 31 rfl Try.underlying31 infoInt rfl (by omega) rfl (H1.out.alloc _) (by omega) rfl (new_cell (by simp)) rfl ?_; intro g' c' w3 o3 oo3 l3; have O3 := Lib.hid o3; have OO3 := Lib.hid oo3; clear o3 oo3 l3)
        go_roundw
        case rel =>
          have b2 := HB.out.alloc (o := .cells #[.int .i64 (-1)] 3 (0, 0)) HB.out.size
          exact ⟨k + 1, g', c', by omega, by go_num, rfl, by rw [HSU.out, List.map_append]; exact O3.out, b2.trans (OO3.out.toBelow hl1.1 b2.size)⟩
        case measure => simp [intOf]; omega
    · have hk' : k = n := by omega
      subst hk'
      have hgl := H1.out.lt
      have HR1 : Hid (Row w1 g1 k (nc (fun p => if lenN L p = 0 then 0 else -1))) := Lib.hid (H1.out.cells.congr fun i hi => by unfold ic nc new0; simp [List.getD, hi])
      have FB : Hid (∀ wr, OnlyB g1 w1 wr → Below W.heap.size W wr) := Lib.hid (fun wr h => HB.out.trans (h.toBelow hgl.1 HB.out.size))
      generalize hgg : g1 = g0 at *
      clear hgg H1
      go_wp2
      go_loopw [8] (fun i wr => ∃ (r : Nat) (f : Nat → Int), r ≤ k ∧ i = .int .i64 r ∧ Snd k L f ∧ (∀ p, p < k → Cpl k L X true r p f) ∧ Row wr g0 k (nc f) ∧ OnlyB g0 w1 wr) (fun i _ => k - (intOf i).toNat)
      case atStart => exact ⟨0, _, Nat.zero_le _, rfl, snd_new k L, fun p _ => cpl_new k L X true p, HR1.out, OnlyB.refl _ _⟩
      case round =>
        obtain ⟨r, f, hr, rfl, h1, h2, h3, h4⟩ := hrel
        have HSN := Lib.hid h1
        have HCP := Lib.hid h2
        have HR := Lib.hid h3
        have HO := Lib.hid h4
        clear h1 h2 h3 h4
        generalize hkn : k = n at *
        by_cases hlr : r < n
        · go_wp2
          go_loopw [9] (fun i wr => ∃ (p : Nat) (f : Nat → Int), p ≤ n ∧ i = .int .i64 p ∧ RI n L X true r p 0 f ∧ Row wr g0 n (nc f) ∧ OnlyB g0 w1 wr) (fun i _ => n - (intOf i).toNat)
          case atStart => exact ⟨0, _, Nat.zero_le _, rfl, RI.start HSN.out HCP.out, HR.out, HO.out⟩
          case round =>
            clear HSN HCP HR HO
            obtain ⟨k, f, hk, rfl, h1, h3, h4⟩ := hrel
            have HRI := Lib.hid h1
            have HR := Lib.hid h3
            have HO := Lib.hid h4
            clear h1 h3 h4
            by_cases hlk : k < n
            · have hlen : lenN L k ≤ 4 := (HS.out.2 k hlk).1
              generalize hm : lenN L k = ml at *
              have HM := Lib.hid hm
              clear hm
              go_wp2
              go_loopw [10] (fun i wr => ∃ (q : Nat) (f : Nat → Int), q ≤ ml ∧ i = .int .i64 q ∧ RI n L X true r k q f ∧ Row wr g0 n (nc f) ∧ OnlyB g0 w1 wr) (fun i _ => ml - (intOf i).toNat)
              case atStart => exact ⟨0, _, Nat.zero_le _, rfl, HRI.out, HR.out, HO.out⟩
              case round =>
                clear HRI HR HO
                obtain ⟨q, f, hq, rfl, h1, h3, h4⟩ := hrel
                have HRI := Lib.hid h1
                have HR := Lib.hid h3
                have HO := Lib.hid h4
                clear h1 h3 h4
                have hFB := FB.out _ HO.out
                obtain ⟨g, α, C, rfl, lg, r1, hC, s1⟩ := HR0.out.at hlk
                rw [HM.out] at r1 s1
                replace r1 := (hFB.cell (p := ⟨g, k, none⟩) lg).trans r1
                replace s1 := s1.below hFB
                have cP := (hFB.cell (p := ⟨bx, 0, none⟩) (by show bx < _; omega)).trans HC0.out
                by_cases hlq : q < ml
                · obtain ⟨g3, rfl, hr3⟩ := s1.row (by omega)
                  have c2 := hr3.cell hlq
                  unfold ic at c2
                  obtain ⟨he, hx⟩ := edge_nx HS.out hlk (q := q) (by rw [HM.out]; exact hlq)
                  rw [hx] at c2
                  have hyn := edge_lt HS.out hlk he
                  have hgg : g ≠ g0 := by have := hgl; omega
                  have HNX := Lib.hid (HRI.out.next HS.out hlk (by rw [HM.out]; exact hlq) hlr (fun h => HXE.out _ _ h he) (fun _ => HBD.out (by first | trivial | rfl)))
                  have c3 := HR.out.cell hyn
                  have c4 := HR.out.cell hlk
                  have f4 := HR.out.frozen k
                  unfold nc at c3 c4
                  have hsx := HRI.out.snd _ hyn
                  have hsy := HRI.out.snd _ hlk
                  have hxb : f (nx L k q) ≤ n ∧ -1 ≤ f (nx L k q) := by rcases hsx with h | ⟨h, h', _⟩ <;> omega
                  have hyb : f k ≤ n ∧ -1 ≤ f k := by rcases hsy with h | ⟨h, h', _⟩ <;> omega
                  clear hsx hsy s1 hr3 he hx hFB
                  have HY : Hid (f k = f k) := Lib.hid rfl
                  generalize nx L k q = z at *
                  generalize hxx : f z = x at *
                  generalize hyy : f k = y at *
                  replace HY : Hid (f k = y) := Lib.hid hyy
                  obtain ⟨x1, x0⟩ := hxb
                  obtain ⟨y1, y0⟩ := hyb
                  clear hxx hyy
                  have j0 : (0 : Int) ≤ (k : Int) := Int.natCast_nonneg _
                  have j1 : (k : Int) < (n : Int) := by omega
                  have j2 : (q : Int) < (ml : Int) := by omega
                  have j3 : (z : Int) < (n : Int) := by omega
                  have A : x < 0 ∨ (0 ≤ x ∧ (n : Int) ≤ x) ∨ (0 ≤ x ∧ x < n ∧ y < 0) ∨ (0 ≤ x ∧ x < n ∧ 0 ≤ y ∧ x + 1 < y) ∨ (0 ≤ x ∧ x < n ∧ 0 ≤ y ∧ x + 1 = y) ∨ (0 ≤ x ∧ x < n ∧ 0 ≤ y ∧ y < x + 1) := by omega
                  rcases A with h1 | ⟨h1, h2⟩ | ⟨h1, h2, h3⟩ | ⟨h1, h2, h3, h4⟩ | ⟨h1, h2, h3, h4⟩ | ⟨h1, h2, h3, h4⟩
                  · have hu : upd n true x y = false := by unfold upd; simp; omega
                    have HU := Lib.hid (stp_no hu)
                    clear hu
                    go_wp2
                    go_roundw
                    case rel => exact ⟨q + 1, _, by omega, by go_num, HNX.out, HR.out.congr (fun j _ => by by_cases e : j = k; (subst e; rw [HU.out, ← HY.out]; simp [nc]); simp [nc, e]), HO.out⟩
                    case measure => simp [intOf]; omega
                  · have hu : upd n true x y = false := by unfold upd; simp; omega
                    have HU := Lib.hid (stp_no hu)
                    clear hu
                    go_wp2
                    go_roundw
                    case rel => exact ⟨q + 1, _, by omega, by go_num, HNX.out, HR.out.congr (fun j _ => by by_cases e : j = k; (subst e; rw [HU.out, ← HY.out]; simp [nc]); simp [nc, e]), HO.out⟩
                    case measure => simp [intOf]; omega
                  · have hu : upd n true x y = true := by unfold upd; simp; omega
                    have HU := Lib.hid (stp_yes hu)
                    clear hu
                    go_wp2
                    go_roundw
                    case rel => exact ⟨q + 1, _, by omega, by go_num, HNX.out, by rw [HU.out]; exact nc_set HR.out, HO.out.set k _⟩
                    case measure => simp [intOf]; omega
                  · have hu : upd n true x y = false := by unfold upd; simp; omega
                    have HU := Lib.hid (stp_no hu)
                    clear hu
                    go_wp2
                    go_roundw
                    case rel => exact ⟨q + 1, _, by omega, by go_num, HNX.out, HR.out.congr (fun j _ => by by_cases e : j = k; (subst e; rw [HU.out, ← HY.out]; simp [nc]); simp [nc, e]), HO.out⟩
                    case measure => simp [intOf]; omega
                  · have hu : upd n true x y = false := by unfold upd; simp; omega
                    have HU := Lib.hid (stp_no hu)
                    clear hu
                    go_wp2
                    go_roundw
                    case rel => exact ⟨q + 1, _, by omega, by go_num, HNX.out, HR.out.congr (fun j _ => by by_cases e : j = k; (subst e; rw [HU.out, ← HY.out]; simp [nc]); simp [nc, e]), HO.out⟩
                    case measure => simp [intOf]; omega
                  · have hu : upd n true x y = true := by unfold upd; simp; omega
                    have HU := Lib.hid (stp_yes hu)
                    clear hu
                    go_wp2
                    go_roundw
                    case rel => exact ⟨q + 1, _, by omega, by go_num, HNX.out, by rw [HU.out]; exact nc_set HR.out, HO.out.set k _⟩
                    case measure => simp [intOf]; omega
                · have hq' : q = ml := by omega
                  subst hq'
                  have HRW := Lib.hid (RI.row HS.out (by rw [HM.out]; exact HRI.out) hlk)
                  go_wp2
                  go_roundw
                  case rel => exact ⟨k + 1, f, by omega, by go_num, HRW.out, HR.out, HO.out⟩
                  case measure => simp [intOf]; omega
            · have hk' : k = n := by omega
              subst hk'
              go_wp2
              go_roundw
              case rel => exact ⟨r + 1, f, by omega, by go_num, HRI.out.snd, HRI.out.finish, HR.out, HO.out⟩
              case measure => simp [intOf]; omega
        · have hr' : r = n := by omega
          subst hr'
          go_wp2
          go_ret
          exact ⟨_, _, f, rfl, HR.out, HSN.out, HCP.out, FIN.out _ (FB.out _ HO.out)⟩
end Go.Proofs.Ytjnjlpljakkakaa
