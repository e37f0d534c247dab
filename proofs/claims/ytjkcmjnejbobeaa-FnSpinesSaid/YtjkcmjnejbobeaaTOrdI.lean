/-
  The contract of ThickOrder in the program: its comparison, the library's insertion sort with it, and the two ends.
  By an AI agent.
-/
import Derived.Test.YtjkcmjnejbobeaaTOrdS
import Derived.Test.YtjkcmjnejbobeaaTail
import Derived.Test.YtjkcmjnejbobeaaShelf
import Derived.Lib.OwnBridge
import Derived.BigRegion
namespace Go.Proofs.Ytjkcmjnejbobeaa
open Go.ChangeShapes Go.WideShapes Go.ChangeAt Go.RowKit Go.Joins Go.Deep Go.Sort
set_option maxRecDepth 100000
set_option linter.unusedVariables false

/-- What the comparison reads: the two boxes that it has caught, and the cards. -/
structure ThC (w : World) (p q g o n c : Nat) (xs : List DCard) (sh : Int) : Prop where
  cards : w.cell? ⟨p, 0, none⟩ = some (.slice (some ⟨g, o, none⟩) n c)
  sheet : w.cell? ⟨q, 0, none⟩ = some (.int .i64 sh)
  row : LC w g o n xs
theorem ThC.below {w w' : World} {p q g o n c : Nat} {xs : List DCard} {sh : Int} (h : ThC w p q g o n c xs sh) (hb : Below w.heap.size w w') : ThC w' p q g o n c xs sh :=
  ⟨(hb.cell (World.block_lt_of_cell? _ _ h.cards)).trans h.cards, (hb.cell (World.block_lt_of_cell? _ _ h.sheet)).trans h.sheet, h.row.below hb⟩
def cmpV (p q : Nat) : Array Value := #[.pointer (some ⟨p, 0, none⟩), .pointer (some ⟨q, 0, none⟩)]
set_option maxHeartbeats 2000000 in
/-- The comparison. -/
theorem thCmp_any (p q g o n c x y : Nat) (xs : List DCard) (sh : Int) (w : World) (hC : ThC w p q g o n c xs sh) (hl : xs.length = n) (hn : n ≤ 20) (hms : ∀ i, i < n → (xs.getD i default).modest) (hx : x < n) (hy : y < n) :
    Calls Try.prog 36 #[.int .i64 (x : Nat), .int .i64 (y : Nat), .pointer (some ⟨p, 0, none⟩), .pointer (some ⟨q, 0, none⟩)] w fun e w' => e = .returned (.int .i64 (tcN xs sh y - tcN xs sh x)) ∧ Below w.heap.size w w' := by
  obtain ⟨ax, cx, ⟨x0, x1, x2⟩, sx⟩ := hC.row.at hx
  obtain ⟨ay, cy, ⟨y0, y1, y2⟩, sy⟩ := hC.row.at hy
  obtain ⟨mx1, mx2⟩ := hms x hx
  obtain ⟨my1, my2⟩ := hms y hy
  have hbx := tcN_bd xs sh x
  have hby := tcN_bd xs sh y
  have HX : Hid (thk (xs.getD x default).d (xs.getD x default).f (xs.getD x default).ss sh = tcN xs sh x) := Lib.hid rfl
  have HY : Hid (thk (xs.getD y default).d (xs.getD y default).f (xs.getD y default).ss sh = tcN xs sh y) := Lib.hid rfl
  have SX := Lib.hid sx
  have SY := Lib.hid sy
  have MX1 := Lib.hid mx1
  have MY1 := Lib.hid my1
  have p0 : ∀ i : WB w, i.x.cell? ⟨p, 0, none⟩ = some (.slice (some ⟨g, o, none⟩) n c) := fun i => i.cell hC.cards
  have q0 : ∀ i : WB w, i.x.cell? ⟨q, 0, none⟩ = some (.int .i64 sh) := fun i => i.cell hC.sheet
  have c0 : ∀ i : WB w, i.x.cell? ⟨g, o + x * 3, none⟩ = some (.int .i64 (xs.getD x default).d) := fun i => i.cell x0
  have c1 : ∀ i : WB w, i.x.cell? ⟨g, o + x * 3 + 1, none⟩ = some (.int .i64 (xs.getD x default).f) := fun i => i.cell x1
  have c2 : ∀ i : WB w, i.x.cell? ⟨g, o + x * 3 + 2, none⟩ = some (.slice (some ⟨ax, 0, none⟩) (xs.getD x default).n cx) := fun i => i.cell x2
  have d0 : ∀ i : WB w, i.x.cell? ⟨g, o + y * 3, none⟩ = some (.int .i64 (xs.getD y default).d) := fun i => i.cell y0
  have d1 : ∀ i : WB w, i.x.cell? ⟨g, o + y * 3 + 1, none⟩ = some (.int .i64 (xs.getD y default).f) := fun i => i.cell y1
  have d2 : ∀ i : WB w, i.x.cell? ⟨g, o + y * 3 + 2, none⟩ = some (.slice (some ⟨ay, 0, none⟩) (xs.getD y default).n cy) := fun i => i.cell y2
  have i0 : (0 : Int) ≤ (x : Int) := by omega
  have i1 : (x : Int) < (n : Int) := by omega
  have i2 : (0 : Int) ≤ (y : Int) := by omega
  have i3 : (y : Int) < (n : Int) := by omega
  clear x0 x1 x2 y0 y1 y2 sx sy mx1 my1 hC hms hl
  generalize xs.getD x default = X at *
  generalize xs.getD y default = Y at *
  generalize tcN xs sh x = kx at *
  generalize tcN xs sh y = ky at *
  have s1 : IntKind.i64.wrap (ky - kx) = ky - kx := IntWalk.i64_in _ (by omega)
  have s2 : wrap64 (ky - kx) = ky - kx := IntWalk.wrap64_in _ (by omega)
  go_enter Try.func36, Try.ntmps36
  go_wp2_with fail
  refine wp_quietB (by kernel_rfl) (by kernel_rfl) ?_
  repeat (go_big_quiet_step ((first | (go_at_call_of 34 (Value.slice (some ⟨ay, 0, none⟩) Y.n cy); exact quietV (by rw [HY.out]) (iThickness_any Y.d Y.f (some ⟨ay, 0, none⟩) Y.n cy Y.ss sh _ MY1.out my2 (SY.out.below (WB.b _)))) | (go_at_call 34; exact quietV (by rw [HX.out]) (iThickness_any X.d X.f (some ⟨ax, 0, none⟩) X.n cx X.ss sh _ MX1.out mx2 (SX.out.below (WB.b _)))))))
  refine wpQuiet_nil ?_
  rintro _ ⟨⟨wS, bS⟩, rfl⟩
  have HB := Lib.hid bS
  clear bS p0 q0 c0 c1 c2 d0 d1 d2
  go_wp2
  go_ret
  exact ⟨rfl, HB.out⟩
abbrev cmpF (p q : Nat) : Value := .func (.func 36) #[] #[.pointer (some ⟨p, 0, none⟩), .pointer (some ⟨q, 0, none⟩)]
theorem OnlyB.heapTo {g : Nat} {w w1 w2 : World} (h : OnlyB g w w1) (h1 : w2.os = w1.os) (h2 : w2.tape = w1.tape) (h3 : w2.output = w1.output) (h4 : w2.heap = w1.heap) : OnlyB g w w2 :=
  ⟨h1.trans h.os, h2.trans h.tape, h3.trans h.output, by rw [h4]; exact h.size, fun i hi hn => by rw [h4]; exact h.block i hi hn⟩
theorem below_only {B g : Nat} {w0 w w' : World} (h : Below B w0 w) (ho : OnlyB g w w') (hg : B ≤ g) (hs : B ≤ w.heap.size) : Below B w0 w' := h.trans (ho.toBelow hg hs)
set_option maxHeartbeats 4000000 in
/-- The library's insertion sort with that comparison, on 0, 1, .., n - 1. -/
theorem thIns_any (p q g o n c gO cO : Nat) (xs : List DCard) (sh : Int) (w0 w : World) (hC : ThC w0 p q g o n c xs sh) (hb : Below w0.heap.size w0 w) (hO : Own1 w w0.heap.size 3 gO n cO (vl id n)) (hl : xs.length = n) (hn : n ≤ 20) (hms : ∀ i, i < n → (xs.getD i default).modest) :
    Calls Try.prog 69 #[.slice (some ⟨gO, 0, none⟩) n cO, .int .i64 0, .int .i64 (n : Nat), cmpF p q] w fun e w' => e = .returned (.tuple #[]) ∧ Own1 w' w0.heap.size 3 gO n cO (vl (ordF (tcN xs sh) n) n) ∧ OnlyB gO w w' := by
  have HC := Lib.hid hC
  have HB := Lib.hid hb
  have hg0 := hO.lt
  have hsz := hb.size
  have HL := Lib.hid hl
  have HM := Lib.hid hms
  have HO : Hid (Own1 w w0.heap.size 3 gO n cO (vl (ordF (tcN xs sh) 1) n)) := Lib.hid (by rw [vl_congr (fun i _ => ordF_one (tcN xs sh) i)]; exact hO)
  have HBD := Lib.hid (tcN_bd xs sh)
  clear hC hb hO hms hl
  obtain ⟨key, hkey⟩ : ∃ key, key = tcN xs sh := ⟨_, rfl⟩
  have HKEY := Lib.hid hkey
  rw [← hkey] at HO HBD ⊢
  clear hkey
  go_enter Try.func69, Try.ntmps69
  go_wp2
  go_loopw [8] (fun i wr => ∃ k : Nat, 1 ≤ k ∧ (k ≤ n ∨ k = 1) ∧ i = .int .i64 k ∧ Own1 wr w0.heap.size 3 gO n cO (vl (ordF key k) n) ∧ OnlyB gO w wr) (fun i _ => n - (intOf i).toNat)
  case atStart => exact ⟨1, Nat.le_refl _, .inr rfl, rfl, HO.out, OnlyB.refl _ _⟩
  case round =>
    clear HO
    obtain ⟨k, hk1, hk2, rfl, h1, h2⟩ := hrel
    have H1 := Lib.hid h1
    have H2 := Lib.hid h2
    clear h1 h2
    by_cases hlt : k < n
    · have HTOP := Lib.hid (ordF_hi key k)
      have HSUC : Hid (ordF key (k + 1) = insF (ordF key k) (iposF key (ordF key k) k k) k) := Lib.hid rfl
      have HLT := Lib.hid (ordF_lt key k)
      generalize ordF key k = L at *
      have HX0 : Hid (Own1 wr w0.heap.size 3 gO n cO (vl (insF L k k) n)) := Lib.hid (by rw [vl_congr (fun i _ => insF_top HTOP.out i)]; exact H1.out)
      clear H1
      go_wp2
      rename World => wo
      go_loopw [9] (fun at_ wi => ∃ j : Nat, j ≤ k ∧ at_ = .int .i64 j ∧ Own1 wi w0.heap.size 3 gO n cO (vl (insF L j k) n) ∧ OnlyB gO w wi ∧ iposF key L k j = iposF key L k k) (fun at_ _ => (intOf at_).toNat)
      case atStart => exact ⟨k, Nat.le_refl _, rfl, HX0.out, H2.out, rfl⟩
      case round =>
        clear HX0 H2
        obtain ⟨j, hj, rfl, hX, hO, hI⟩ := hrel
        rename World => wi
        have HX := Lib.hid hX
        have HO := Lib.hid hO
        have HI := Lib.hid hI
        have hszi := hO.size
        clear hX hO hI
        by_cases h0 : j = 0
        · have HFIN : Hid (insF L j k = ordF key (k + 1)) := Lib.hid (by rw [HSUC.out, ← HI.out, h0]; rfl)
          have t0 : decide ((j : Int) > 0) = false := decide_eq_false (by omega)
          have t1 : decide (0 < j) = false := decide_eq_false (by omega)
          clear h0
          go_wp2_with fail
          refine wp_quietB (by kernel_rfl) (by kernel_rfl) ?_
          repeat (go_big_quiet_step (fail))
          refine wpQuiet_nil ?_
          rintro wS' ⟨⟨wS, bS⟩, hwS⟩
          replace hwS : wS' = wS := hwS
          subst wS'
          have HXd := Lib.hid (HX.out.below bS)
          have HOd := Lib.hid (HO.out.below bS)
          clear bS
          go_wp2
          go_roundw
          case rel => exact ⟨k + 1, by omega, .inl (by omega), by go_num, by rw [← HFIN.out]; exact HXd.out, HOd.out⟩
          case measure => simp [intOf]; omega
        · obtain ⟨r, hr⟩ : ∃ r, j = r + 1 := ⟨j - 1, by omega⟩
          have HR := Lib.hid hr
          have hrj : r < j := by omega
          have hrk : r < k := by omega
          have e2 : IntKind.i64.wrap ((j : Int) - 1) = (r : Int) := by rw [show (j : Int) - 1 = (r : Int) by omega]; exact IntWalk.i64_in _ (by omega)
          have e3 : wrap64 ((j : Int) - 1) = (r : Int) := by rw [show (j : Int) - 1 = (r : Int) by omega]; exact IntWalk.wrap64_in _ (by omega)
          have r2 : (r : Int) < (n : Int) := by omega
          have r3 : (0 : Int) ≤ (r : Int) := by omega
          have j2 : (j : Int) < (n : Int) := by omega
          have j3 : (0 : Int) ≤ (j : Int) := by omega
          have t0 : decide ((j : Int) > 0) = true := decide_eq_true (by omega)
          have t1 : decide (0 < j) = true := decide_eq_true (by omega)
          have cj := HX.out.vcell (i := j) (by omega)
          have cr := HX.out.vcell (i := r) (by omega)
          rw [insF_at] at cj
          rw [insF_lo hrj] at cr
          have hv := HLT.out r hrk
          have HSW : Hid (∀ i, (if i = r then k else if i = j then L r else insF L j k i) = insF L r k i) := Lib.hid (fun i => by rw [hr]; exact insF_swap hrk i)
          have HGO := Lib.hid (iposF_go (key := key) (L := L) (k := k) (j := r))
          have HST := Lib.hid (iposF_stop (key := key) (L := L) (k := k) (j := r))
          generalize L r = v at *
          have HCW : Hid (ThC wi p q g o n c xs sh) := Lib.hid (HC.out.below (below_only HB.out HO.out hg0.1 hsz))
          have HCMP : Hid (∀ i : WB wi, Calls Try.prog 36 #[.int .i64 (k : Nat), .int .i64 (v : Nat), .pointer (some ⟨p, 0, none⟩), .pointer (some ⟨q, 0, none⟩)] i.x fun e w' => e = .returned (.int .i64 (key v - key k)) ∧ Below i.x.heap.size i.x w') := Lib.hid (fun i => by
            rw [HKEY.out]
            exact thCmp_any p q g o n c k v xs sh i.x (HCW.out.below (WB.b _)) HL.out hn HM.out hlt (by omega))
          have bk := HBD.out k
          have bv := HBD.out v
          have w1j : ∀ i : WB wi, i.x.cell? ⟨gO, j, none⟩ = some (.int .i64 (k : Nat)) := fun i => i.cell cj
          have w1r : ∀ i : WB wi, i.x.cell? ⟨gO, r, none⟩ = some (.int .i64 (v : Nat)) := fun i => i.cell cr
          clear hr h0 cj cr
          by_cases hkq : key v < key k
          · have t2 : decide (key v - key k < 0) = true := decide_eq_true (by omega)
            have HIN : Hid (iposF key L k r = iposF key L k k) := Lib.hid (by rw [← HI.out, HR.out]; exact (HGO.out hkq).symm)
            clear hkq
            generalize key v - key k = dd at *
            clear bk bv
            go_wp2_with fail
            refine wp_quietB (by kernel_rfl) (by kernel_rfl) ?_
            repeat (go_big_quiet_step ((go_at_call 36; exact quietV rfl (HCMP.out _))))
            refine wpQuiet_nil ?_
            rintro wS' ⟨⟨wS, bS⟩, hwS⟩
            replace hwS : wS' = wS := hwS
            subst wS'
            have HXd := Lib.hid (HX.out.below bS)
            have HOd := Lib.hid (HO.out.below bS)
            have cj := w1j ⟨wS, bS⟩
            have cr := w1r ⟨wS, bS⟩
            have fj := HXd.out.frozen j
            have fr := HXd.out.frozen r
            simp only at cj cr
            clear bS w1j w1r HCW HCMP HX HO
            go_wp2_with fail
            go_region
            all_goals
              have HXs := Lib.hid ((HXd.out.drew.set j (.int .i64 (v : Nat))).set r (.int .i64 (k : Nat)))
              have HOs := Lib.hid (((HOd.out.heapTo (w2 := wS.drew) rfl rfl rfl rfl).set j (.int .i64 (v : Nat))).set r (.int .i64 (k : Nat)))
              go_wp2
              go_roundw
              case rel => exact ⟨r, by omega, rfl, by rw [← vl_congr (fun i _ => HSW.out i), ← vl_set, ← vl_set]; exact HXs.out, HOs.out, HIN.out⟩
              case measure => simp [intOf, e2]; omega
          · have t2 : decide (key v - key k < 0) = false := decide_eq_false (by omega)
            have HFIN : Hid (insF L j k = ordF key (k + 1)) := Lib.hid (by rw [HSUC.out, ← HI.out, HR.out, HST.out hkq])
            clear hkq
            generalize key v - key k = dd at *
            clear bk bv
            go_wp2_with fail
            refine wp_quietB (by kernel_rfl) (by kernel_rfl) ?_
            repeat (go_big_quiet_step ((go_at_call 36; exact quietV rfl (HCMP.out _))))
            refine wpQuiet_nil ?_
            rintro wS' ⟨⟨wS, bS⟩, hwS⟩
            replace hwS : wS' = wS := hwS
            subst wS'
            have HXd := Lib.hid (HX.out.below bS)
            have HOd := Lib.hid (HO.out.below bS)
            clear bS w1j w1r HCW HCMP HX HO
            go_wp2
            go_roundw
            case rel => exact ⟨k + 1, by omega, .inl (by omega), by go_num, by rw [← HFIN.out]; exact HXd.out, HOd.out⟩
            case measure => simp [intOf]; omega
    · have HFIN : Hid (vl (ordF key k) n = vl (ordF key n) n) := Lib.hid (by
        rcases hk2 with h | h
        · rw [show k = n by omega]
        · have hn0 : n = 0 ∨ n = 1 := by omega
          rcases hn0 with h2 | h2
          · rw [h2]; rfl
          · rw [h, h2])
      go_wp2
      go_end0
      exact ⟨rfl, by rw [← HFIN.out]; exact H1.out, H2.out⟩
end Go.Proofs.Ytjkcmjnejbobeaa
