/- Walks: the table of shapes; a node's widths; a node. -/
import Derived.Test.YthaocbfmdcmkkaaDoorT3
import Derived.RegionTactic
import Derived.ChangeAlike
import Derived.IntWalk
set_option linter.unusedVariables false
namespace Go.Proofs.YthaocbfmdcmkkaaDoor.K
open Go.RowKit

def wordL : List (List UInt8) := [[], [], [], [110, 111, 116], [110, 101, 103], [97, 100, 100], [115, 117, 98], [109, 117, 108], [97, 110, 100], [111, 114], [120, 111, 114], [115, 104, 108], [115, 104, 114], [115, 97, 114],
  [117, 100, 105, 118], [117, 114, 101, 109], [101, 113], [117, 108, 116], [115, 108, 116], [105, 116, 101], [99, 111, 110, 99, 97, 116], [101, 120, 116, 114, 97, 99, 116], [122, 101, 120, 116], [115, 101, 120, 116], [108, 111, 97, 100]]
def wordI (k : Int) : ByteArray := ⟨(wordL.getD k.toNat []).toArray⟩
/-- The table of shapes, as it is laid. -/
def Shapes (w : World) : Prop := ∀ k : Nat, k ≤ 24 → w.cell? ⟨0, k * 3, none⟩ = some (.string (wordI k)) ∧ w.cell? ⟨0, k * 3 + 1, none⟩ = some (.int .i64 (partsI k)) ∧ w.cell? ⟨0, k * 3 + 2, none⟩ = some (.int .i64 (howI k))
theorem Shapes.mono {w w' : World} (h : Shapes w) (hb : Ext w w') : Shapes w' := fun k hk => ⟨hb.cell (h k hk).1, hb.cell (h k hk).2.1, hb.cell (h k hk).2.2⟩

theorem shaped_calls (k : Int) (w : World) (h0 : 0 ≤ k) (h1 : k ≤ 255) (hG : Shapes w) : Calls Tryd.prog 54 #[.int .u8 k] w fun e w' =>
    e = .returned (.tuple #[.agg #[.string (wordI k), .int .i64 (partsI k), .int .i64 (howI k)], .bool (decide (0 < partsI k))]) ∧ Ext w w' := by
  by_cases h : 24 < k
  · have hw : Hid (wordI k = ⟨#[]⟩) := by
      show wordI k = _
      unfold wordI
      rw [List.getD_eq_getElem?_getD, List.getElem?_eq_none (by simp [wordL]; omega)]
      rfl
    have hp : Hid (partsI k = 0) := by show partsI k = 0; unfold partsI; omega
    have hh : Hid (howI k = 0) := by show howI k = 0; unfold howI; omega
    rw [hw.out, hp.out, hh.out]
    clear hw hp hh hG
    go_enter Tryd.func54, Tryd.ntmps54
    go_wp2
    exact bodyPost_ret (v := .tuple #[.agg #[.string ⟨#[]⟩, .int .i64 0, .int .i64 0], .bool false]) (by simp [results, Tryd.results54, go_sem]) rfl ⟨rfl, (Ext.refl w).alloc _⟩
  · obtain ⟨n, rfl⟩ := Int.eq_ofNat_of_zero_le h0
    obtain ⟨c0, c1, c2⟩ := hG n (by omega)
    clear hG
    have hlt : 0 < w.heap.size := World.block_lt_of_cell? w _ c0
    have hn : (n : Int) < 25 := by omega
    go_enter Tryd.func54, Tryd.ntmps54
    go_wp2
    go_region
    all_goals go_wp2
    exact bodyPost_ret (v := .tuple #[.agg #[.string (wordI n), .int .i64 (partsI n), .int .i64 (howI n)], .bool (decide (0 < partsI n))]) (by simp [results, Tryd.results54, go_sem]) rfl ⟨rfl, ((Ext.refl w).alloc _).drew⟩

theorem wide1_calls (x : Tm) (A : Option Addr) (c : Nat) (b : Nat) (n : Int) (w : World) (hc : w.cell? ⟨b, 0, none⟩ = some (.int .i64 n)) :
    Calls Tryd.prog 92 #[tv x A c, .pointer (some ⟨b, 0, none⟩)] w fun e w' => e = .returned (.bool (x.width != n)) ∧ Ext w w' := by
  have hlt := World.block_lt_of_cell? w _ hc
  unfold tv
  go_enter Tryd.func92, Tryd.ntmps92
  go_wp2
  go_ret
  exact ⟨rfl, (Ext.refl w).alloc _⟩
set_option maxRecDepth 100000 in
theorem indexW_calls (xs : List Tm) (A : Option Addr) (c : Nat) (b : Nat) (n : Int) (w : World) (hx : xs.length ≤ 1000000) (hs : Subs w 0 A xs) (hc : w.cell? ⟨b, 0, none⟩ = some (.int .i64 n)) :
    Calls Tryd.prog 111 #[.slice A xs.length c, .func (.func 92) #[] #[.pointer (some ⟨b, 0, none⟩)]] w fun e w' =>
      ∃ i : Int, e = .returned (.int .i64 i) ∧ decide (0 ≤ i) = xs.any (fun y => y.width != n) ∧ Ext w w' := by
  go_enter Tryd.func111, Tryd.ntmps111
  go_wp2
  go_loopw [8] (fun i wr => ∃ k : Nat, k ≤ xs.length ∧ i = .int .i64 k ∧ Ext w wr ∧ Hid ((xs.take k).any (fun y => y.width != n) = false)) (fun i _ => xs.length - (intOf i).toNat)
  case atStart => exact ⟨0, by omega, rfl, Ext.refl _, rfl⟩
  case round =>
    obtain ⟨k, hk, rfl, hb, ha⟩ := hrel
    by_cases hlt : k < xs.length
    · obtain ⟨b', o, A', c', rfl, he⟩ := (hs.mono hb).at_ k hlt
      obtain ⟨h0, h1, h2, h3, h4, h5, _, _, _⟩ := he
      have hc' := hb.cell hc
      go_wp2_with (go_at_call 92; refine (wide1_calls xs[k] _ _ _ n _ hc').mono ?_; rintro e w2 ⟨rfl, hb2⟩)
      · have hk' : (xs[k].width != n) = true := by assumption
        go_ret
        exact ⟨k, rfl, by rw [List.any_eq_true.2 ⟨xs[k], List.getElem_mem hlt, hk'⟩]; simp, hb.trans hb2⟩
      · have hk' : (xs[k].width != n) = false := by assumption
        go_roundw
        case rel => exact ⟨k + 1, by omega, by go_num, hb.trans hb2, by show _ = _; rw [take_succ' _ _ hlt, List.any_append, ha.out]; simp [hk']⟩
        case measure => simp [intOf]; omega
    · have hall := Lib.hid (List.take_of_length_le (show xs.length ≤ k by omega))
      go_wp2
      go_ret
      exact ⟨-1, rfl, by rw [← hall.out, ha.out]; rfl, hb⟩
theorem containsW_calls (xs : List Tm) (A : Option Addr) (c : Nat) (b : Nat) (n : Int) (w : World) (hx : xs.length ≤ 1000000) (hs : Subs w 0 A xs) (hc : w.cell? ⟨b, 0, none⟩ = some (.int .i64 n)) :
    Calls Tryd.prog 91 #[.slice A xs.length c, .func (.func 92) #[] #[.pointer (some ⟨b, 0, none⟩)]] w fun e w' =>
      e = .returned (.bool (xs.any (fun y => y.width != n))) ∧ Ext w w' := by
  go_enter Tryd.func91, Tryd.ntmps91
  go_wp2_with (go_at_call 111; refine (indexW_calls xs A c b n _ hx hs hc).mono ?_; rintro e w2 ⟨i, rfl, hi, hb2⟩)
  go_ret
  exact ⟨ret_bool (by first | exact hi | rfl), hb2⟩

/-- How many parts a way asks for. -/
def needI (h : Int) : Nat := if h = 2 ∨ h = 4 then 2 else if h = 3 then 3 else 1
theorem elem2 {w : World} {lo b o : Nat} {x y : Tm} (h : Subs w lo (some ⟨b, o, none⟩) [x, y]) : ∃ A c A' c', ElemAt w lo b o x A c ∧ ElemAt w lo b (o + 6) y A' c' := by
  obtain ⟨b1, o1, A, c, e, h0⟩ := h.at_ 0 (by simp)
  cases e
  obtain ⟨b2, o2, A', c', e, h1⟩ := h.at_ 1 (by simp)
  cases e
  exact ⟨A, c, A', c', by simpa using h0, by simpa using h1⟩
theorem elem3 {w : World} {lo b o : Nat} {x y z : Tm} (h : Subs w lo (some ⟨b, o, none⟩) [x, y, z]) : ∃ A c A' c' A'' c'', ElemAt w lo b o x A c ∧ ElemAt w lo b (o + 6) y A' c' ∧ ElemAt w lo b (o + 12) z A'' c'' := by
  obtain ⟨b1, o1, A, c, e, h0⟩ := h.at_ 0 (by simp)
  cases e
  obtain ⟨b2, o2, A', c', e, h1⟩ := h.at_ 1 (by simp)
  cases e
  obtain ⟨b3, o3, A'', c'', e, h2⟩ := h.at_ 2 (by simp)
  cases e
  exact ⟨A, c, A', c', A'', c'', by simpa using h0, by simpa using h1, by simpa using h2⟩
theorem elem1 {w : World} {lo b o : Nat} {x : Tm} (h : Subs w lo (some ⟨b, o, none⟩) [x]) : ∃ A c, ElemAt w lo b o x A c := by
  obtain ⟨b1, o1, A, c, e, h0⟩ := h.at_ 0 (by simp)
  cases e
  exact ⟨A, c, by simpa using h0⟩
set_option maxHeartbeats 1000000 in
set_option maxRecDepth 100000 in
theorem widths1_calls (t : Tm) (A : Option Addr) (c : Nat) (w : World) (hx : t.sub.length ≤ 1000000) (hs : Subs w 0 A t.sub) (hl1 : 1 ≤ t.sub.length) :
    Calls Tryd.prog 57 #[tv t A c, .int .i64 1] w fun e w' => e = .returned (.bool (wdH 1 t)) ∧ Ext w w' := by
  obtain ⟨b, o, A0, c0, rfl, he0⟩ := hs.at_ 0 hl1
  rw [show o + 0 * 6 = o by omega] at he0
  obtain ⟨x0, x1, x2, x3, x4, x5, _, _, _⟩ := he0
  have hbl : b < w.heap.size := World.block_lt_of_cell? w _ x0
  have hr : Hid (wdH 1 t = !(t.sub.any (fun y => y.width != t.width))) := by
    show wdH 1 t = _
    simp only [wdH, List.not_any_eq_all_not]
    congr 1; funext y; cases hy : y.width == t.width <;> simp [bne, hy]
  go_enter Tryd.func57, Tryd.ntmps57
  go_wp2_with (go_at_call 91; refine (containsW_calls t.sub _ _ _ t.width _ hx (hs.mono (((Ext.refl w).alloc _).alloc _)) (by go_simp)).mono ?_; rintro e w2 ⟨rfl, hb2⟩)
  go_ret
  exact ⟨ret_bool hr.out.symm, (((Ext.refl w).alloc _).alloc _).trans hb2⟩
set_option maxHeartbeats 1000000 in
set_option maxRecDepth 100000 in
theorem widths2_calls (k wd bs lo : Int) (nm : ByteArray) (x y : Tm) (A : Option Addr) (c : Nat) (w : World) (hs : Subs w 0 A [x, y]) :
    Calls Tryd.prog 57 #[tv ⟨k, wd, bs, nm, lo, [x, y]⟩ A c, .int .i64 2] w fun e w' => e = .returned (.bool (wdH 2 ⟨k, wd, bs, nm, lo, [x, y]⟩)) ∧ Ext w w' := by
  obtain ⟨b, o, _, _, rfl, _⟩ := hs.at_ 0 (by simp)
  obtain ⟨A1, c1, A2, c2, ⟨x0, x1, x2, x3, x4, x5, _, _, _⟩, ⟨y0, y1, y2, y3, y4, y5, _, _, _⟩⟩ := elem2 hs
  have hbl : b < w.heap.size := World.block_lt_of_cell? w _ x0
  clear x0 x2 x3 x4 x5 y0 y2 y3 y4 y5
  have hr : Hid (wdH 2 ⟨k, wd, bs, nm, lo, [x, y]⟩ = (wd == 1 && y.width == x.width)) := rfl
  cases hw : (wd == 1) with
  | true =>
    go_enter Tryd.func57, Tryd.ntmps57
    go_wp2
    go_ret
    exact ⟨ret_bool (by rw [hr.out, hw]; rfl), ((Ext.refl w).alloc _).alloc _⟩
  | false =>
    go_enter Tryd.func57, Tryd.ntmps57
    go_wp2
    go_ret
    exact ⟨ret_bool (by rw [hr.out, hw]; rfl), ((Ext.refl w).alloc _).alloc _⟩
set_option maxHeartbeats 1000000 in
set_option maxRecDepth 100000 in
theorem widths3_calls (k wd bs lo : Int) (nm : ByteArray) (x y z : Tm) (A : Option Addr) (c : Nat) (w : World) (hs : Subs w 0 A [x, y, z]) :
    Calls Tryd.prog 57 #[tv ⟨k, wd, bs, nm, lo, [x, y, z]⟩ A c, .int .i64 3] w fun e w' => e = .returned (.bool (wdH 3 ⟨k, wd, bs, nm, lo, [x, y, z]⟩)) ∧ Ext w w' := by
  obtain ⟨b, o, _, _, rfl, _⟩ := hs.at_ 0 (by simp)
  obtain ⟨A1, c1, A2, c2, A3, c3, ⟨x0, x1, x2, x3, x4, x5, _, _, _⟩, ⟨y0, y1, y2, y3, y4, y5, _, _, _⟩, ⟨z0, z1, z2, z3, z4, z5, _, _, _⟩⟩ := elem3 hs
  have hbl : b < w.heap.size := World.block_lt_of_cell? w _ x0
  clear x0 x2 x3 x4 x5 y0 y2 y3 y4 y5 z0 z2 z3 z4 z5
  have hr : Hid (wdH 3 ⟨k, wd, bs, nm, lo, [x, y, z]⟩ = (x.width == 1 && y.width == wd && z.width == wd)) := rfl
  cases hw : (x.width == 1) with
  | true =>
    cases hy : (y.width == wd) with
    | true =>
      go_enter Tryd.func57, Tryd.ntmps57
      go_wp2
      go_region
      all_goals go_wp2
      go_ret
      exact ⟨ret_bool (by rw [hr.out, hw, hy]; rfl), (((Ext.refl w).alloc _).alloc _).drew⟩
    | false =>
      go_enter Tryd.func57, Tryd.ntmps57
      go_wp2
      go_region
      all_goals go_wp2
      go_ret
      exact ⟨ret_bool (by rw [hr.out, hw, hy]; rfl), (((Ext.refl w).alloc _).alloc _).drew⟩
  | false =>
    go_enter Tryd.func57, Tryd.ntmps57
    go_wp2
    go_region
    all_goals go_wp2
    go_ret
    exact ⟨ret_bool (by rw [hr.out, hw]; rfl), (((Ext.refl w).alloc _).alloc _).drew⟩
theorem twide_eq {x : Int} {b : Bool} (h : wideB x = b) (w : World) : Calls Tryd.prog 53 #[.int .i64 x] w fun e w' => e = .returned (.bool b) ∧ w = w' := by
  subst h; exact twide_calls x w
set_option maxHeartbeats 1000000 in
set_option maxRecDepth 100000 in
theorem widths4_calls (k wd bs lo : Int) (nm : ByteArray) (x y : Tm) (A : Option Addr) (c : Nat) (w : World) (hs : Subs w 0 A [x, y]) :
    Calls Tryd.prog 57 #[tv ⟨k, wd, bs, nm, lo, [x, y]⟩ A c, .int .i64 4] w fun e w' => e = .returned (.bool (wdH 4 ⟨k, wd, bs, nm, lo, [x, y]⟩)) ∧ Ext w w' := by
  obtain ⟨b, o, _, _, rfl, _⟩ := hs.at_ 0 (by simp)
  obtain ⟨A1, c1, A2, c2, ⟨x0, x1, x2, x3, x4, x5, _, _, _⟩, ⟨y0, y1, y2, y3, y4, y5, _, _, _⟩⟩ := elem2 hs
  have hbl : b < w.heap.size := World.block_lt_of_cell? w _ x0
  clear x0 x2 x3 x4 x5 y0 y2 y3 y4 y5
  have hr : Hid (wdH 4 ⟨k, wd, bs, nm, lo, [x, y]⟩ = (wideB x.width && wideB y.width && x.width + y.width == wd)) := rfl
  cases hw : wideB x.width with
  | true =>
    obtain ⟨bx1, bx2⟩ := wideB_iff.1 hw
    cases hy : wideB y.width with
    | true =>
      obtain ⟨by1, by2⟩ := wideB_iff.1 hy
      go_enter Tryd.func57, Tryd.ntmps57
      go_wp2_with fail
      go_quiet ((go_at_call 53; first | (with_reducible exact qs (twide_eq hw _)) | (with_reducible exact qs (twide_eq hy _))))
      all_goals go_wp2
      go_ret
      exact ⟨ret_bool (by rw [hr.out, hw, hy]; simp), (((Ext.refl w).alloc _).alloc _).drewN _⟩
    | false =>
      go_enter Tryd.func57, Tryd.ntmps57
      go_wp2_with fail
      go_quiet ((go_at_call 53; first | (with_reducible exact qs (twide_eq hw _)) | (with_reducible exact qs (twide_eq hy _))))
      all_goals go_wp2
      go_ret
      exact ⟨ret_bool (by rw [hr.out, hw, hy]; rfl), (((Ext.refl w).alloc _).alloc _).drewN _⟩
  | false =>
    go_enter Tryd.func57, Tryd.ntmps57
    go_wp2_with fail
    go_quiet ((go_at_call 53; (with_reducible exact qs (twide_eq hw _))))
    all_goals go_wp2
    go_ret
    exact ⟨ret_bool (by rw [hr.out, hw]; rfl), (((Ext.refl w).alloc _).alloc _).drewN _⟩
set_option maxHeartbeats 1000000 in
set_option maxRecDepth 100000 in
theorem widths5_calls (k wd bs lo : Int) (nm : ByteArray) (x : Tm) (A : Option Addr) (c : Nat) (w : World) (hs : Subs w 0 A [x]) (hwd : wideB wd = true) :
    Calls Tryd.prog 57 #[tv ⟨k, wd, bs, nm, lo, [x]⟩ A c, .int .i64 5] w fun e w' => e = .returned (.bool (wdH 5 ⟨k, wd, bs, nm, lo, [x]⟩)) ∧ Ext w w' := by
  obtain ⟨b, o, _, _, rfl, _⟩ := hs.at_ 0 (by simp)
  obtain ⟨A1, c1, ⟨x0, x1, x2, x3, x4, x5, _, _, _⟩⟩ := elem1 hs
  have hbl : b < w.heap.size := World.block_lt_of_cell? w _ x0
  obtain ⟨bw1, bw2⟩ := wideB_iff.1 hwd
  clear x0 x2 x3 x4 x5
  have hr : Hid (wdH 5 ⟨k, wd, bs, nm, lo, [x]⟩ = (decide (0 ≤ lo) && wideB x.width && decide (wd ≤ x.width) && decide (lo ≤ x.width - wd))) := rfl
  by_cases h1 : 0 ≤ lo
  · cases hw : wideB x.width with
    | true =>
      obtain ⟨bx1, bx2⟩ := wideB_iff.1 hw
      by_cases h2 : wd ≤ x.width
      · go_enter Tryd.func57, Tryd.ntmps57
        go_wp2_with (go_at_call 53; refine (twide_eq hw _).mono ?_; rintro e w' ⟨rfl, rfl⟩)
        go_ret
        exact ⟨ret_bool (by rw [hr.out, hw]; simp [h1, h2]), ((Ext.refl w).alloc _).alloc _⟩
      · go_enter Tryd.func57, Tryd.ntmps57
        go_wp2_with (go_at_call 53; refine (twide_eq hw _).mono ?_; rintro e w' ⟨rfl, rfl⟩)
        go_ret
        exact ⟨ret_bool (by rw [hr.out, hw]; simp [h1]; intro h; omega), ((Ext.refl w).alloc _).alloc _⟩
    | false =>
      go_enter Tryd.func57, Tryd.ntmps57
      go_wp2_with (go_at_call 53; refine (twide_eq hw _).mono ?_; rintro e w' ⟨rfl, rfl⟩)
      go_ret
      exact ⟨ret_bool (by rw [hr.out, hw]; simp), ((Ext.refl w).alloc _).alloc _⟩
  · go_enter Tryd.func57, Tryd.ntmps57
    go_wp2_with (go_at_call 53; refine (twide_calls _ _).mono ?_; rintro e w' ⟨rfl, rfl⟩)
    go_ret
    exact ⟨ret_bool (by rw [hr.out]; simp; intro h; omega), ((Ext.refl w).alloc _).alloc _⟩
set_option maxHeartbeats 1000000 in
set_option maxRecDepth 100000 in
theorem widths6_calls (k wd bs lo : Int) (nm : ByteArray) (x : Tm) (A : Option Addr) (c : Nat) (w : World) (hs : Subs w 0 A [x]) :
    Calls Tryd.prog 57 #[tv ⟨k, wd, bs, nm, lo, [x]⟩ A c, .int .i64 6] w fun e w' => e = .returned (.bool (wdH 6 ⟨k, wd, bs, nm, lo, [x]⟩)) ∧ Ext w w' := by
  obtain ⟨b, o, _, _, rfl, _⟩ := hs.at_ 0 (by simp)
  obtain ⟨A1, c1, ⟨x0, x1, x2, x3, x4, x5, _, _, _⟩⟩ := elem1 hs
  have hbl : b < w.heap.size := World.block_lt_of_cell? w _ x0
  clear x0 x2 x3 x4 x5
  go_enter Tryd.func57, Tryd.ntmps57
  go_wp2
  go_ret
  exact ⟨ret_bool rfl, ((Ext.refl w).alloc _).alloc _⟩
set_option maxHeartbeats 1000000 in
set_option maxRecDepth 100000 in
theorem widths7_calls (k wd bs lo : Int) (nm : ByteArray) (x : Tm) (A : Option Addr) (c : Nat) (w : World) (hs : Subs w 0 A [x]) :
    Calls Tryd.prog 57 #[tv ⟨k, wd, bs, nm, lo, [x]⟩ A c, .int .i64 7] w fun e w' => e = .returned (.bool (wdH 7 ⟨k, wd, bs, nm, lo, [x]⟩)) ∧ Ext w w' := by
  obtain ⟨b, o, _, _, rfl, _⟩ := hs.at_ 0 (by simp)
  obtain ⟨A1, c1, ⟨x0, x1, x2, x3, x4, x5, _, _, _⟩⟩ := elem1 hs
  have hbl : b < w.heap.size := World.block_lt_of_cell? w _ x0
  clear x0 x2 x3 x4 x5
  go_enter Tryd.func57, Tryd.ntmps57
  go_wp2_with (go_at_call 93; refine (loadable_calls _ _).mono ?_; rintro e w' ⟨rfl, rfl⟩)
  go_ret
  exact ⟨ret_bool rfl, ((Ext.refl w).alloc _).alloc _⟩

theorem widths_calls (t : Tm) (A : Option Addr) (c : Nat) (w : World) (hp : (t.sub.length : Int) = partsI t.kind) (hk : partsI t.kind ≠ 0) (hs : Subs w 0 A t.sub) (hwd : wideB t.width = true) :
    Calls Tryd.prog 57 #[tv t A c, .int .i64 (howI t.kind)] w fun e w' => e = .returned (.bool (wdB t)) ∧ Ext w w' := by
  have h3 : 3 ≤ t.kind ∧ t.kind ≤ 24 := by unfold partsI at hk; omega
  unfold wdB
  have hcs : howI t.kind = 1 ∨ (howI t.kind = 2 ∧ partsI t.kind = 2) ∨ (howI t.kind = 3 ∧ partsI t.kind = 3) ∨ (howI t.kind = 4 ∧ partsI t.kind = 2) ∨ (howI t.kind = 5 ∧ partsI t.kind = 1) ∨ (howI t.kind = 6 ∧ partsI t.kind = 1) ∨ (howI t.kind = 7 ∧ partsI t.kind = 1) := by
    unfold howI partsI; omega
  have hle : partsI t.kind ≤ 3 := by unfold partsI; omega
  obtain ⟨k, wd, bs, nm, lo, sub⟩ := t
  rcases hcs with h | ⟨h, p⟩ | ⟨h, p⟩ | ⟨h, p⟩ | ⟨h, p⟩ | ⟨h, p⟩ | ⟨h, p⟩
  · rw [h]
    exact widths1_calls _ A c w (by simp at hp hle ⊢; omega) hs (by simp at hp hk hle ⊢; omega)
  · rw [h]; match sub, hp with
    | [x, y], _ => exact widths2_calls k wd bs lo nm x y A c w hs
    | [], hp => simp at hp p; omega
    | [_], hp => simp at hp p; omega
    | _ :: _ :: _ :: _, hp => simp at hp p; omega
  · rw [h]; match sub, hp with
    | [x, y, z], _ => exact widths3_calls k wd bs lo nm x y z A c w hs
    | [], hp => simp at hp p; omega
    | [_], hp => simp at hp p; omega
    | [_, _], hp => simp at hp p; omega
    | _ :: _ :: _ :: _ :: _, hp => simp at hp p; omega
  · rw [h]; match sub, hp with
    | [x, y], _ => exact widths4_calls k wd bs lo nm x y A c w hs
    | [], hp => simp at hp p; omega
    | [_], hp => simp at hp p; omega
    | _ :: _ :: _ :: _, hp => simp at hp p; omega
  · rw [h]; match sub, hp with
    | [x], _ => exact widths5_calls k wd bs lo nm x A c w hs hwd
    | [], hp => simp at hp p; omega
    | _ :: _ :: _, hp => simp at hp p; omega
  · rw [h]; match sub, hp with
    | [x], _ => exact widths6_calls k wd bs lo nm x A c w hs
    | [], hp => simp at hp p; omega
    | _ :: _ :: _, hp => simp at hp p; omega
  · rw [h]; match sub, hp with
    | [x], _ => exact widths7_calls k wd bs lo nm x A c w hs
    | [], hp => simp at hp p; omega
    | _ :: _ :: _, hp => simp at hp p; omega
end Go.Proofs.YthaocbfmdcmkkaaDoor.K
