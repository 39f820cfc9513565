/- Walks, the reference: Size, Depth, Wide, loads, Power, Ok. -/
import Derived.Test.YthaocbfmdcmkkaaDoorP1
set_option linter.unusedVariables false set_option linter.unusedSimpArgs false
namespace Go.Proofs.YthaocbfmdcmkkaaDoor.K
open Go.RowKit

set_option maxHeartbeats 1000000 in
set_option maxRecDepth 100000 in
theorem rsize_calls (N : Nat) : ∀ (t : Tm) (A : Option Addr) (c : Nat) (w : World), t.size ≤ N → N ≤ 1000000 → Subs w 0 A t.sub →
    Calls Tryd.prog 19 #[tv t A c] w fun e w' => e = .returned (.int .i64 t.size) ∧ Ext w w' := by
  induction N with
  | zero => intro t A c w h; have := t.size_pos; omega
  | succ N ih =>
  intro t A c w hd hN hs
  have hz := t.size_eq
  have hl := length_le_sizes t.sub
  go_enter Tryd.func19, Tryd.ntmps19
  go_wp2
  go_loopw [3, 4] (fun n i wr => ∃ (k : Nat) (m : Int), k ≤ t.sub.length ∧ i = .int .i64 k ∧ n = .int .i64 m ∧ m = (sizes (t.sub.take k) : Int) + 1 ∧ m ≤ 1000000 ∧ Ext w wr ∧ wr.heap[w.heap.size]? = some (.cells (cells6 t A c) 25 (0, 0))) (fun _ i _ => t.sub.length - (intOf i).toNat)
  case atStart => exact ⟨0, 1, by omega, rfl, rfl, by simp [sizes], by omega, (Ext.refl w).alloc _, heap_new w _⟩
  case round =>
    obtain ⟨k, m, hk, rfl, rfl, hm, hmb, hb, hB⟩ := hrel
    obtain ⟨q0, q1, q2, q3, q4, q5, q6⟩ := box6At hB
    by_cases hlt : k < t.sub.length
    · obtain ⟨b, o, A', c', rfl, he⟩ := (hs.mono hb).at_ k hlt
      obtain ⟨h0, h1, h2, h3, h4, h5, hsub, _, _⟩ := he
      have hzk := sizes_get t.sub k hlt
      have hst := sizes_take t.sub k hlt
      have hle := sizes_take_le t.sub (k + 1)
      have hb1 : (t.sub[k].size : Int) ≤ 1000000 := by omega
      have hm2 : m + (t.sub[k].size : Int) = (sizes (t.sub.take (k + 1)) : Int) + 1 := by omega
      have hm3 : m + (t.sub[k].size : Int) ≤ 1000000 := by omega
      have hm4 : 0 ≤ m := by omega
      replace hm2 := Lib.hid hm2
      clear hm hst
      go_wp2_with (go_at_call 19; refine (ih t.sub[k] A' c' _ (by omega) (by omega) hsub).mono ?_; rintro e w2 ⟨rfl, hb2⟩)
      go_roundw
      case rel => exact ⟨k + 1, m + t.sub[k].size, by omega, by go_num, rfl, hm2.out, hm3, hb.trans hb2, hb2.heap hB⟩
      case measure => simp [intOf]; omega
    · have htk : t.sub.take k = t.sub := List.take_of_length_le (by omega)
      have hm' : m = t.size := by rw [hm, htk]; omega
      subst hm'
      go_wp2
      go_ret
      exact ⟨rfl, hb⟩

set_option maxHeartbeats 1000000 in
set_option maxRecDepth 100000 in
theorem rdepth_calls (N : Nat) : ∀ (t : Tm) (A : Option Addr) (c : Nat) (w : World), t.size ≤ N → N ≤ 1000000 → Subs w 0 A t.sub →
    Calls Tryd.prog 21 #[tv t A c] w fun e w' => e = .returned (.int .i64 t.depth) ∧ Ext w w' := by
  induction N with
  | zero => intro t A c w h; have := t.size_pos; omega
  | succ N ih =>
  intro t A c w hd hN hs
  have hz := t.size_eq
  have hdp := t.depth_eq
  have hds := t.depth_le_size
  have hl := length_le_sizes t.sub
  go_enter Tryd.func21, Tryd.ntmps21
  go_wp2
  go_loopw [3, 4] (fun n i wr => ∃ (k : Nat) (m : Int), k ≤ t.sub.length ∧ i = .int .i64 k ∧ n = .int .i64 m ∧ m = (depths (t.sub.take k) : Int) ∧ m ≤ 1000000 ∧ Ext w wr ∧ wr.heap[w.heap.size]? = some (.cells (cells6 t A c) 25 (0, 0))) (fun _ i _ => t.sub.length - (intOf i).toNat)
  case atStart => exact ⟨0, 0, by omega, rfl, rfl, by simp [depths], by omega, (Ext.refl w).alloc _, heap_new w _⟩
  case round =>
    obtain ⟨k, m, hk, rfl, rfl, hm, hmb, hb, hB⟩ := hrel
    obtain ⟨q0, q1, q2, q3, q4, q5, q6⟩ := box6At hB
    by_cases hlt : k < t.sub.length
    · obtain ⟨b, o, A', c', rfl, he⟩ := (hs.mono hb).at_ k hlt
      obtain ⟨h0, h1, h2, h3, h4, h5, hsub, _, _⟩ := he
      have hzk := sizes_get t.sub k hlt
      have hst := depths_take t.sub k hlt
      have hdk := t.sub[k].depth_le_size
      obtain ⟨d, hd'⟩ : ∃ d : Int, d = t.sub[k].depth := ⟨_, rfl⟩
      have hm0 : 0 ≤ m := by omega
      have hdn : 0 ≤ d := by omega
      have hb1 : d ≤ 1000000 := by omega
      have hmax : Hid ((if m < d then d else m) = (depths (t.sub.take (k + 1)) : Int)) := by show _ = _; split <;> omega
      have hmax2 : (if m < d then d else m) ≤ 1000000 := by split <;> omega
      have hcall : ∀ W, Ext wr W → Calls Tryd.prog 21 #[tv t.sub[k] A' c'] W fun e w' => e = .returned (.int .i64 d) ∧ Ext W w' := fun W h => by
        rw [hd']; exact ih t.sub[k] A' c' W (by omega) (by omega) (hsub.mono h)
      clear hm hst hd'
      go_wp2_with (go_at_call 21; refine (hcall _ (by first | exact Ext.refl _ | exact (Ext.refl _).drew)).mono ?_; rintro e w2 ⟨rfl, hb2⟩)
      go_roundw
      case rel => exact ⟨k + 1, (if m < d then d else m), by omega, by go_num, rfl, hmax.out, hmax2, hb.trans hb2, hb2.heap hB⟩
      case measure => simp [intOf]; omega
    · have htk : t.sub.take k = t.sub := List.take_of_length_le (by omega)
      rw [htk] at hm
      have hm' : m + 1 = t.depth := by omega
      have hr : Hid (m + 1 = t.depth) := hm'
      have hm0 : 0 ≤ m := by omega
      clear hm' hm hdp hds
      go_wp2
      go_ret
      rw [hr.out]
      exact ⟨rfl, hb⟩
set_option maxHeartbeats 1000000 in
theorem rwide_calls (x : Int) (w : World) : Calls Tryd.prog 58 #[.int .i64 x] w fun e w' => e = .returned (.bool (wideB x)) ∧ w' = w := by
  unfold wideB
  by_cases h1 : 1 ≤ x
  · by_cases h2 : x ≤ 64
    · go_enter Tryd.func58, Tryd.ntmps58
      go_wp2
      go_ret
      simp [h1, h2]
    · go_enter Tryd.func58, Tryd.ntmps58
      go_wp2
      go_ret
      simp [h1, h2]
  · go_enter Tryd.func58, Tryd.ntmps58
    go_wp2
    go_ret
    simp; omega

set_option maxHeartbeats 1000000 in
theorem rloads_calls (x : Int) (w : World) : Calls Tryd.prog 61 #[.int .i64 x] w fun e w' => e = .returned (.bool (loadsB x)) ∧ w' = w := by
  unfold loadsB
  by_cases h1 : x = 8
  · subst h1
    go_enter Tryd.func61, Tryd.ntmps61
    go_wp2
    go_ret
    exact ⟨rfl, rfl⟩
  by_cases h2 : x = 16
  · subst h2
    go_enter Tryd.func61, Tryd.ntmps61
    go_wp2
    go_ret
    exact ⟨rfl, rfl⟩
  by_cases h3 : x = 32
  · subst h3
    go_enter Tryd.func61, Tryd.ntmps61
    go_wp2
    go_ret
    exact ⟨rfl, rfl⟩
  have g1 : (x == 8) = false := by simp [h1]
  have g2 : (x == 16) = false := by simp [h2]
  have g3 : (x == 32) = false := by simp [h3]
  rw [g1, g2, g3]
  cases g4 : (x == 64) <;>
  · go_enter Tryd.func61, Tryd.ntmps61
    go_wp2
    go_ret
    exact ⟨rfl, rfl⟩

set_option maxHeartbeats 1000000 in
set_option maxRecDepth 100000 in
theorem rpower_calls (n : Nat) (hn : n ≤ 63) (w : World) : Calls Tryd.prog 94 #[.int .i64 n] w fun e w' => e = .returned (.int .u64 (2 ^ n)) ∧ w' = w := by
  go_enter Tryd.func94, Tryd.ntmps94
  go_wp2
  go_loopw [3, 4] (fun p i wr => ∃ (k : Nat) (m : Int), k ≤ n ∧ i = .int .i64 k ∧ p = .int .u64 m ∧ m = 2 ^ k ∧ wr = w) (fun _ i _ => n - (intOf i).toNat)
  case atStart => exact ⟨0, 1, by omega, rfl, rfl, by simp, rfl⟩
  case round =>
    obtain ⟨k, m, hk, rfl, rfl, hm, rfl⟩ := hrel
    have h2 : (2 : Int) ^ (k + 1) = m + m := by rw [Int.pow_succ, hm]; omega
    have h0 : 0 ≤ m := by rw [hm]; exact Int.pow_nonneg (by omega)
    by_cases hlt : k < n
    · have hp : m + m ≤ 9223372036854775808 := by
        rw [← h2]
        have hq : 2 ^ (k + 1) ≤ 2 ^ 63 := Nat.pow_le_pow_right (by omega) (show k + 1 ≤ 63 by omega)
        calc (2 : Int) ^ (k + 1) = ((2 ^ (k + 1) : Nat) : Int) := (Int.natCast_pow 2 (k + 1)).symm
          _ ≤ ((2 ^ 63 : Nat) : Int) := Int.ofNat_le.2 hq
          _ = 9223372036854775808 := by decide
      replace h2 := Lib.hid h2
      clear hm
      go_wp2
      go_roundw
      case rel => exact ⟨k + 1, m + m, by omega, by go_num, rfl, h2.out.symm, trivial⟩
      case measure => simp [intOf]; omega
    · obtain rfl : k = n := by omega
      replace hm := Lib.hid hm
      clear h2
      go_wp2
      go_ret
      rw [hm.out]
      exact ⟨rfl, rfl⟩

theorem okB_ref (x b : Int) (hb : b < 18446744073709551616) : okB x b = (wideB x && (x == 64 || decide (b < 2 ^ x.toNat))) := by
  unfold okB maskI
  cases hw : wideB x with
  | false => rfl
  | true =>
    rw [if_pos rfl]
    by_cases h : x = 64
    · subst h
      have e : (2 : Int) ^ (64 : Int).toNat = 18446744073709551616 := by decide
      have h1 : b ≤ 2 ^ (64 : Int).toNat - 1 := by rw [e]; omega
      rw [decide_eq_true h1]; rfl
    · rw [show (x == 64) = false by simp [h]]
      simp only [Bool.true_and, Bool.false_or, decide_eq_decide]
      omega
set_option maxHeartbeats 1000000 in
set_option maxRecDepth 100000 in
theorem rok_calls (x b : Int) (hb0 : 0 ≤ b) (hb : b < 18446744073709551616) (w : World) : Calls Tryd.prog 59 #[.int .i64 x, .int .u64 b] w fun e w' => e = .returned (.bool (okB x b)) ∧ w' = w := by
  rw [okB_ref x b hb]
  have H := rwide_calls x w
  cases hw : wideB x with
  | false =>
    rw [hw] at H
    go_enter Tryd.func59, Tryd.ntmps59
    go_wp2_with (go_at_call 58; refine H.mono ?_; rintro e w2 ⟨rfl, rfl⟩)
    go_ret
    exact ⟨rfl, rfl⟩
  | true =>
    rw [hw] at H
    simp only [wideB, Bool.and_eq_true, decide_eq_true_eq] at hw
    obtain ⟨hw1, hw2⟩ := hw
    by_cases h : x = 64
    · subst h
      go_enter Tryd.func59, Tryd.ntmps59
      go_wp2_with (go_at_call 58; refine H.mono ?_; rintro e w2 ⟨rfl, rfl⟩)
      go_ret
      exact ⟨rfl, rfl⟩
    · have hx : (x == 64) = false := by simp [h]
      have hP := rpower_calls x.toNat (by omega) w
      rw [show ((x.toNat : Nat) : Int) = x by omega] at hP
      obtain ⟨p, hp⟩ : ∃ p : Int, p = 2 ^ x.toNat := ⟨_, rfl⟩
      rw [← hp] at hP ⊢
      clear hp
      rw [hx]
      go_enter Tryd.func59, Tryd.ntmps59
      go_wp2_with (first | (go_at_call 58; refine H.mono ?_; rintro e w2 ⟨rfl, rfl⟩) | (go_at_call 94; refine hP.mono ?_; rintro e w2 ⟨rfl, rfl⟩))
      go_ret
      exact ⟨rfl, rfl⟩
end Go.Proofs.YthaocbfmdcmkkaaDoor.K
