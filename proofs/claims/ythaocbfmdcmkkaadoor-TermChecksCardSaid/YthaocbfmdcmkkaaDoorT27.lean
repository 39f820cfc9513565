/- Walks: Same. -/
import Derived.Test.YthaocbfmdcmkkaaDoorT22
set_option linter.unusedVariables false
namespace Go.Proofs.YthaocbfmdcmkkaaDoor.K
open Go.RowKit

theorem sames_len {xs ys : List Tm} (h : xs.length ≠ ys.length) : sames xs ys = false := by
  cases hs : sames xs ys with
  | false => rfl
  | true => rw [sames_iff] at hs; exact absurd (by rw [hs]) h
theorem sames_no {xs ys : List Tm} {k : Nat} (h1 : k < xs.length) (h2 : k < ys.length) (h : sameB xs[k] ys[k] = false) : sames xs ys = false := by
  cases hs : sames xs ys with
  | false => rfl
  | true => rw [sames_iff] at hs; subst hs; rw [sameB_refl] at h; cases h
theorem sames_yes {xs ys : List Tm} (hl : xs.length = ys.length) (h : ∀ i (h1 : i < xs.length) (h2 : i < ys.length), sameB xs[i] ys[i] = true) : sames xs ys = true :=
  (sames_iff _ _).2 (List.ext_getElem hl fun i h1 h2 => (sameB_iff _ _).1 (h i h1 h2))
set_option maxHeartbeats 4000000 in
set_option maxRecDepth 100000 in
theorem equalF_calls (N : Nat) (hN : N ≤ 1000000) (ih : ∀ (a b : Tm) (A B : Option Addr) (c d : Nat) (w : World), a.size ≤ N → Subs w 0 A a.sub → Subs w 0 B b.sub →
      Calls Tryd.prog 22 #[tv a A c, tv b B d] w fun e w' => e = .returned (.bool (sameB a b)) ∧ Ext w w')
    (xs ys : List Tm) (A B : Option Addr) (c d : Nat) (w : World) (hx : sizes xs ≤ N) (hs : Subs w 0 A xs) (hs2 : Subs w 0 B ys) :
    Calls Tryd.prog 42 #[.slice A xs.length c, .slice B ys.length d, .func (.func 22) #[] #[]] w fun e w' => e = .returned (.bool (sames xs ys)) ∧ Ext w w' := by
  have hl := length_le_sizes xs
  replace ih := Lib.hid ih
  by_cases hle : xs.length = ys.length
  · have hle1 : ys.length ≤ xs.length := by omega
    have hle2 : xs.length ≤ ys.length := by omega
    have hne : ((xs.length : Int) != ys.length) = false := by simp [bne, hle]
    have Hle := Lib.hid hle
    clear hle
    have hres : Hid _ := Lib.hid (sames_yes (xs := xs) (ys := ys) Hle.out)
    go_enter Tryd.func42, Tryd.ntmps42
    go_wp2
    go_loopw [17] (fun i wr => ∃ (k : Nat), k ≤ xs.length ∧ i = .int .i64 k ∧ Hid (∀ i (h1 : i < xs.length) (h2 : i < ys.length), i < k → sameB xs[i] ys[i] = true) ∧ Ext w wr) (fun i _ => xs.length - (intOf i).toNat)
    case atStart => exact ⟨0, by omega, rfl, (fun i _ _ h => absurd h (by omega)), Ext.refl _⟩
    case round =>
      obtain ⟨k, hk, rfl, hok, hb⟩ := hrel
      by_cases hlt : k < xs.length
      · obtain ⟨b1, o1, A', c', rfl, he⟩ := (hs.mono hb).at_ k hlt
        obtain ⟨x0, x1, x2, x3, x4, x5, xsub, _, _⟩ := he
        obtain ⟨b2, o2, B', d', rfl, he⟩ := (hs2.mono hb).at_ k (by omega)
        obtain ⟨y0, y1, y2, y3, y4, y5, ysub, _, _⟩ := he
        have hzk := sizes_get xs k hlt
        have hk2 : (k : Int) < ys.length := by omega
        have hcall := fun W (h : Ext wr W) => ih.out xs[k] ys[k] A' B' c' d' W (by omega) (xsub.mono h) (ysub.mono h)
        have hb1 := World.block_lt_of_cell? wr _ x0
        have hb2 := World.block_lt_of_cell? wr _ y0
        simp only at hb1 hb2
        cases hxy : sameB xs[k] ys[k]
        all_goals
          rw [hxy] at hcall
          go_wp2_with (go_at_call 22; refine (hcall _ (by exact ((Ext.refl wr).alloc _).alloc _)).mono ?_; rintro e w4 ⟨rfl, hb4⟩)
        · have hr' : Hid (sames xs ys = false) := sames_no hlt (by omega) hxy
          go_ret
          exact ⟨ret_bool (by rw [hr'.out]), hb.trans ((((Ext.refl wr).alloc _).alloc _).trans hb4)⟩
        · go_roundw
          case rel => exact ⟨k + 1, by omega, by go_num, (fun i h h' hi => by
            rcases Nat.lt_or_ge i k with h3 | h3
            · exact hok.out i h h' h3
            · obtain rfl : i = k := by omega
              exact hxy), hb.trans ((((Ext.refl wr).alloc _).alloc _).trans hb4)⟩
          case measure => simp [intOf]; omega
      · have hr' : Hid (sames xs ys = true) := hres.out fun i h1 h2 => hok.out i h1 h2 (by omega)
        go_wp2
        go_ret
        exact ⟨ret_bool (by rw [hr'.out]), hb⟩
  · have hr' := Lib.hid (sames_len hle)
    have hne : ((xs.length : Int) != ys.length) = true := by simp [bne]; omega
    clear hle
    go_enter Tryd.func42, Tryd.ntmps42
    go_wp2
    go_ret
    exact ⟨ret_bool (by rw [hr'.out]), Ext.refl _⟩

def headC (a b : Tm) : Bool := a.kind == b.kind && a.width == b.width && a.bits == b.bits && a.name.toList == b.name.toList && a.low == b.low
theorem sameB_headC (a b : Tm) : sameB a b = (headC a b && sames a.sub b.sub) := by
  obtain ⟨k, w, b1, n, l, s⟩ := a
  obtain ⟨k', w', b1', n', l', s'⟩ := b
  rw [sameB]; rfl
set_option maxHeartbeats 4000000 in
set_option maxRecDepth 100000 in
theorem same0_calls (a b : Tm) (A B : Option Addr) (c d : Nat) (w : World) (hn : headC a b = false) :
    Calls Tryd.prog 22 #[tv a A c, tv b B d] w fun e w' => e = .returned (.bool false) ∧ Ext w w' := by
  have e0 : Ext w ((w.alloc (.cells (cells6 a A c) 25)).alloc (.cells (cells6 b B d) 25)) := ((Ext.refl w).alloc _).alloc _
  go_enter Tryd.func22, Tryd.ntmps22
  unfold headC at hn
  cases h1 : (a.kind == b.kind)
  · go_wp2
    go_ret
    exact ⟨rfl, e0⟩
  · cases h2 : (a.width == b.width)
    · go_wp2
      go_ret
      exact ⟨rfl, e0⟩
    · cases h3 : (a.bits == b.bits)
      · go_wp2
        go_ret
        exact ⟨rfl, e0⟩
      · cases h4 : (a.name.toList == b.name.toList)
        · go_wp2
          go_ret
          exact ⟨rfl, e0⟩
        · have h5 : (a.low == b.low) = false := by
            rw [h1, h2, h3, h4] at hn; simpa using hn
          clear hn
          go_wp2
          go_ret
          exact ⟨rfl, e0⟩
set_option maxHeartbeats 4000000 in
set_option maxRecDepth 100000 in
theorem same_calls (N : Nat) : ∀ (a b : Tm) (A B : Option Addr) (c d : Nat) (w : World), N ≤ 1000000 → a.size ≤ N → Subs w 0 A a.sub → Subs w 0 B b.sub →
    Calls Tryd.prog 22 #[tv a A c, tv b B d] w fun e w' => e = .returned (.bool (sameB a b)) ∧ Ext w w' := by
  induction N with
  | zero => intro a b A B c d w _ h; have := a.size_pos; omega
  | succ N ih =>
  intro a b A B c d w hN hd hs hs2
  have hz := a.size_eq
  rw [sameB_headC]
  have e0 : Ext w ((w.alloc (.cells (cells6 a A c) 25)).alloc (.cells (cells6 b B d) 25)) := ((Ext.refl w).alloc _).alloc _
  cases hh : headC a b with
  | false => exact same0_calls a b A B c d w hh
  | true =>
    simp only [headC, Bool.and_eq_true] at hh
    obtain ⟨⟨⟨⟨h1, h2⟩, h3⟩, h4⟩, h5⟩ := hh
    have heq := fun W (h : Ext w W) => equalF_calls N (by omega) (fun a b A B c d w => ih a b A B c d w (by omega)) a.sub b.sub A B c d W (by omega) (hs.mono h) (hs2.mono h)
    replace heq := Lib.hid heq
    clear ih
    go_enter Tryd.func22, Tryd.ntmps22
    go_wp2_with (go_at_call 42; refine (heq.out _ (by exact e0)).mono ?_; rintro e w4 ⟨rfl, hb4⟩)
    go_ret
    exact ⟨ret_bool (by simp), e0.trans hb4⟩
end Go.Proofs.YthaocbfmdcmkkaaDoor.K
