/- Walks, the reference: Same. -/
import Derived.Test.YthaocbfmdcmkkaaDoorT12
import Derived.Deep.RegionHeld3
import Derived.Deep.DrawnRows
set_option linter.unusedVariables false
namespace Go.Proofs.YthaocbfmdcmkkaaDoor.K
open Go.RowKit
attribute [local go_sem ↓] Go.wp_at_zero Go.wp_at_succ

mutual
def sameB : Tm → Tm → Bool
  | ⟨k, w, b, n, l, s⟩, ⟨k', w', b', n', l', s'⟩ => k == k' && w == w' && b == b' && n.toList == n'.toList && l == l' && sames s s'
def sames : List Tm → List Tm → Bool
  | [], [] => true
  | x :: xs, y :: ys => sameB x y && sames xs ys
  | _, _ => false
end
mutual
theorem sameB_iff : ∀ a b : Tm, sameB a b = true ↔ a = b
  | ⟨k, w, b, n, l, s⟩, ⟨k', w', b', n', l', s'⟩ => by
    have := sames_iff s s'
    simp only [sameB, Bool.and_eq_true, beq_iff_eq, this, Tm.mk.injEq]
    constructor
    · rintro ⟨⟨⟨⟨⟨h1, h2⟩, h3⟩, h4⟩, h5⟩, h6⟩; exact ⟨h1, h2, h3, name_inj h4, h5, h6⟩
    · rintro ⟨h1, h2, h3, h4, h5, h6⟩; exact ⟨⟨⟨⟨⟨h1, h2⟩, h3⟩, by rw [h4]⟩, h5⟩, h6⟩
theorem sames_iff : ∀ a b : List Tm, sames a b = true ↔ a = b
  | [], [] => by simp [sames]
  | x :: xs, y :: ys => by simp only [sames, Bool.and_eq_true, sameB_iff x y, sames_iff xs ys, List.cons.injEq]
  | [], y :: ys => by simp [sames]
  | x :: xs, [] => by simp [sames]
end
theorem sameB_refl (t : Tm) : sameB t t = true := (sameB_iff t t).2 rfl
/-- All but the parts. -/
def headB (a b : Tm) : Bool := a.kind == b.kind && a.width == b.width && a.bits == b.bits && a.name.toList == b.name.toList && a.low == b.low && a.sub.length == b.sub.length
theorem sameB_head (a b : Tm) : sameB a b = true ↔ headB a b = true ∧ ∀ i (h : i < a.sub.length) (h' : i < b.sub.length), sameB a.sub[i] b.sub[i] = true := by
  rw [sameB_iff]
  constructor
  · rintro rfl; exact ⟨by simp [headB], fun i h h' => sameB_refl _⟩
  · rintro ⟨h, hs⟩
    simp only [headB, Bool.and_eq_true, beq_iff_eq] at h
    obtain ⟨⟨⟨⟨⟨h1, h2⟩, h3⟩, h4⟩, h5⟩, h6⟩ := h
    have h7 : a.sub = b.sub := List.ext_getElem h6 fun i h h' => (sameB_iff _ _).1 (hs i h h')
    have h8 := name_inj h4
    cases a; cases b; simp only at h1 h2 h3 h5 h7 h8; subst h1 h2 h3 h5 h7 h8; rfl
theorem sameB_no {a b : Tm} (h : headB a b = false) : sameB a b = false := by
  cases hs : sameB a b with
  | false => rfl
  | true => rw [(sameB_head a b).1 hs |>.1] at h; cases h

set_option maxHeartbeats 4000000 in
set_option maxRecDepth 100000 in
theorem rsame0_calls (a b : Tm) (A B : Option Addr) (c d : Nat) (w : World) (hn : headB a b = false) :
    Calls Tryd.prog 10 #[tv a A c, tv b B d] w fun e w' => e = .returned (.bool false) ∧ Ext w w' := by
  have e0 : Ext w ((w.alloc (.cells (cells6 a A c) 25)).alloc (.cells (cells6 b B d) 25)) := ((Ext.refl w).alloc _).alloc _
  go_enter Tryd.func10, Tryd.ntmps10
  unfold headB at hn
  cases h1 : (a.kind != b.kind)
  · cases h2 : (a.width != b.width)
    · cases h3 : (a.bits != b.bits)
      · cases h4 : (a.name.toList == b.name.toList)
        · go_wp2
          go_ret
          exact ⟨rfl, e0⟩
        · cases h5 : (a.low != b.low)
          · have h6 : ((a.sub.length : Int) != b.sub.length) = true := by
              simp only [bne, Bool.not_eq_false', beq_iff_eq] at h1 h2 h3 h5
              rw [h1, h2, h3, h4, h5] at hn
              simp at hn
              simp [bne]; omega
            clear hn
            go_wp2
            go_ret
            exact ⟨rfl, e0⟩
          · go_wp2
            go_ret
            exact ⟨rfl, e0⟩
      · go_wp2
        go_ret
        exact ⟨rfl, e0⟩
    · go_wp2
      go_ret
      exact ⟨rfl, e0⟩
  · go_wp2
    go_ret
    exact ⟨rfl, e0⟩

set_option maxHeartbeats 4000000 in
set_option maxRecDepth 100000 in
theorem rsame_calls (N : Nat) : ∀ (a b : Tm) (A B : Option Addr) (c d : Nat) (w : World), a.size ≤ N → N ≤ 1000000 → Subs w 0 A a.sub → Subs w 0 B b.sub →
    Calls Tryd.prog 10 #[tv a A c, tv b B d] w fun e w' => e = .returned (.bool (sameB a b)) ∧ Ext w w' := by
  induction N with
  | zero => intro a b A B c d w h; have := a.size_pos; omega
  | succ N ih =>
  intro a b A B c d w hd hN hs hs2
  have hz := a.size_eq
  have hl := length_le_sizes a.sub
  cases hh : headB a b with
  | false => rw [sameB_no hh]; exact rsame0_calls a b A B c d w hh
  | true =>
    have HS := sameB_head a b
    have hh' := hh
    simp only [headB, Bool.and_eq_true, beq_iff_eq] at hh'
    obtain ⟨⟨⟨⟨⟨h1, h2⟩, h3⟩, h4⟩, h5⟩, h6⟩ := hh'
    replace h1 : (a.kind != b.kind) = false := by simp [bne, h1]
    replace h2 : (a.width != b.width) = false := by simp [bne, h2]
    replace h3 : (a.bits != b.bits) = false := by simp [bne, h3]
    replace h4 : (a.name.toList == b.name.toList) = true := by simp [h4]
    replace h5 : (a.low != b.low) = false := by simp [bne, h5]
    have hle : b.sub.length ≤ a.sub.length ∧ a.sub.length ≤ b.sub.length := by omega
    obtain ⟨hle1, hle2⟩ := hle
    replace h6 : ((a.sub.length : Int) != b.sub.length) = false := by simp [bne, h6]
    have Hs : Hid ((∀ i (h : i < a.sub.length) (h' : i < b.sub.length), sameB a.sub[i] b.sub[i] = true) → sameB a b = true) := fun h => HS.2 ⟨hh, h⟩
    have Hn : Hid (sameB a b = true → ∀ i (h : i < a.sub.length) (h' : i < b.sub.length), sameB a.sub[i] b.sub[i] = true) := fun h => (HS.1 h).2
    clear HS hh
    obtain ⟨r, hr⟩ : ∃ r, r = sameB a b := ⟨_, rfl⟩
    rw [← hr]
    replace hr := Lib.hid hr
    go_enter Tryd.func10, Tryd.ntmps10
    go_wp2
    go_loopw [5] (fun i wr => ∃ (k : Nat), k ≤ a.sub.length ∧ i = .int .i64 k ∧ Hid (∀ i (h : i < a.sub.length) (h' : i < b.sub.length), i < k → sameB a.sub[i] b.sub[i] = true) ∧ Ext w wr ∧
      wr.heap[w.heap.size]? = some (.cells (cells6 a A c) 25 (0, 0)) ∧ wr.heap[w.heap.size + 1]? = some (.cells (cells6 b B d) 25 (0, 0))) (fun i _ => a.sub.length - (intOf i).toNat)
    case atStart => exact ⟨0, by omega, rfl, (fun i _ _ h => absurd h (by omega)), ((Ext.refl _).alloc _).alloc _, ((Ext.refl _).alloc _).heap (heap_new w _), heap_new' (by simp)⟩
    case round =>
      obtain ⟨k, hk, rfl, hok, hb, hB1, hB2⟩ := hrel
      obtain ⟨q0, q1, q2, q3, q4, q5, q6⟩ := box6At hB1
      obtain ⟨p0, p1, p2, p3, p4, p5, p6⟩ := box6At hB2
      by_cases hlt : k < a.sub.length
      · obtain ⟨b1, o1, A', c', rfl, he⟩ := (hs.mono hb).at_ k hlt
        obtain ⟨x0, x1, x2, x3, x4, x5, xsub, _, _⟩ := he
        obtain ⟨b2, o2, B', d', rfl, he⟩ := (hs2.mono hb).at_ k (by omega)
        obtain ⟨y0, y1, y2, y3, y4, y5, ysub, _, _⟩ := he
        have hzk := sizes_get a.sub k hlt
        have hk0 : (0 : Int) ≤ (k : Int) := by omega
        have hk1 : (k : Int) < a.sub.length := by omega
        have hk2 : (k : Int) < b.sub.length := by omega
        have hcall := fun W (h : Ext wr W) => ih a.sub[k] b.sub[k] A' B' c' d' W (by omega) (by omega) (xsub.mono h) (ysub.mono h)
        have hS : ∀ W, Ext wr W → (Ext wr W ∧ W.cell? ⟨w.heap.size, 5, none⟩ = some (.slice (some ⟨b1, o1, none⟩) a.sub.length c) ∧ W.cell? ⟨w.heap.size + 1, 5, none⟩ = some (.slice (some ⟨b2, o2, none⟩) b.sub.length d) ∧
            (W.cell? ⟨b1, o1 + k * 6, none⟩ = some (.int .u8 a.sub[k].kind) ∧ W.cell? ⟨b1, o1 + k * 6 + 1, none⟩ = some (.int .i64 a.sub[k].width) ∧ W.cell? ⟨b1, o1 + k * 6 + 2, none⟩ = some (.int .u64 a.sub[k].bits) ∧
              W.cell? ⟨b1, o1 + k * 6 + 3, none⟩ = some (.string a.sub[k].name) ∧ W.cell? ⟨b1, o1 + k * 6 + 4, none⟩ = some (.int .i64 a.sub[k].low) ∧ W.cell? ⟨b1, o1 + k * 6 + 5, none⟩ = some (.slice A' a.sub[k].sub.length c')) ∧
            (W.cell? ⟨b2, o2 + k * 6, none⟩ = some (.int .u8 b.sub[k].kind) ∧ W.cell? ⟨b2, o2 + k * 6 + 1, none⟩ = some (.int .i64 b.sub[k].width) ∧ W.cell? ⟨b2, o2 + k * 6 + 2, none⟩ = some (.int .u64 b.sub[k].bits) ∧
              W.cell? ⟨b2, o2 + k * 6 + 3, none⟩ = some (.string b.sub[k].name) ∧ W.cell? ⟨b2, o2 + k * 6 + 4, none⟩ = some (.int .i64 b.sub[k].low) ∧ W.cell? ⟨b2, o2 + k * 6 + 5, none⟩ = some (.slice B' b.sub[k].sub.length d'))) :=
          fun W h => ⟨h, h.cell q5, h.cell p5, ⟨h.cell x0, h.cell x1, h.cell x2, h.cell x3, h.cell x4, h.cell x5⟩, ⟨h.cell y0, h.cell y1, h.cell y2, h.cell y3, h.cell y4, h.cell y5⟩⟩
        replace hS := Lib.hid hS
        have hd : Ext wr wr.drew := (Ext.refl wr).drew
        cases hxy : sameB a.sub[k] b.sub[k]
        all_goals
          rw [hxy] at hcall
          go_wp2_with fail
          go_region_held3 (fun W => Ext wr W ∧ W.cell? ⟨w.heap.size, 5, none⟩ = some (.slice (some ⟨b1, o1, none⟩) a.sub.length c) ∧ W.cell? ⟨w.heap.size + 1, 5, none⟩ = some (.slice (some ⟨b2, o2, none⟩) b.sub.length d) ∧
            (W.cell? ⟨b1, o1 + k * 6, none⟩ = some (.int .u8 a.sub[k].kind) ∧ W.cell? ⟨b1, o1 + k * 6 + 1, none⟩ = some (.int .i64 a.sub[k].width) ∧ W.cell? ⟨b1, o1 + k * 6 + 2, none⟩ = some (.int .u64 a.sub[k].bits) ∧
              W.cell? ⟨b1, o1 + k * 6 + 3, none⟩ = some (.string a.sub[k].name) ∧ W.cell? ⟨b1, o1 + k * 6 + 4, none⟩ = some (.int .i64 a.sub[k].low) ∧ W.cell? ⟨b1, o1 + k * 6 + 5, none⟩ = some (.slice A' a.sub[k].sub.length c')) ∧
            (W.cell? ⟨b2, o2 + k * 6, none⟩ = some (.int .u8 b.sub[k].kind) ∧ W.cell? ⟨b2, o2 + k * 6 + 1, none⟩ = some (.int .i64 b.sub[k].width) ∧ W.cell? ⟨b2, o2 + k * 6 + 2, none⟩ = some (.int .u64 b.sub[k].bits) ∧
              W.cell? ⟨b2, o2 + k * 6 + 3, none⟩ = some (.string b.sub[k].name) ∧ W.cell? ⟨b2, o2 + k * 6 + 4, none⟩ = some (.int .i64 b.sub[k].low) ∧ W.cell? ⟨b2, o2 + k * 6 + 5, none⟩ = some (.slice B' b.sub[k].sub.length d')))
            (first | exact hS.out _ hd | exact hS.out _ hE)
            ((go_at_call 10; refine (hcall _ (And.left (by assumption))).mono ?_; rintro e w4 ⟨rfl, hb4⟩; have hE := (And.left (a := Ext wr _) (by assumption)).trans hb4))
          go_wp2
        · have hr' : Hid (r = false) := by
            show _ = _
            cases r with
            | false => rfl
            | true => rw [Hn.out hr.out.symm k hlt (by omega)] at hxy; cases hxy
          go_ret
          exact ⟨ret_bool (by rw [hr'.out]), hb.trans (And.left (a := Ext wr _) (by assumption))⟩
        · have hE4 := And.left (a := Ext wr w4) (by assumption)
          go_roundw
          case rel => exact ⟨k + 1, by omega, by go_num, (fun i h h' hi => by
            rcases Nat.lt_or_ge i k with h3 | h3
            · exact hok.out i h h' h3
            · obtain rfl : i = k := by omega
              exact hxy), hb.trans hE4, hE4.heap hB1, hE4.heap hB2⟩
          case measure => simp [intOf]; omega
      · have hr' : Hid (r = true) := by show _ = _; rw [hr.out]; exact Hs.out fun i h h' => hok.out i h h' (by omega)
        go_wp2
        go_ret
        exact ⟨ret_bool (by rw [hr'.out]), hb⟩
end Go.Proofs.YthaocbfmdcmkkaaDoor.K
