/- Walks, the reference: count, long, Great. -/
import Derived.Test.YthaocbfmdcmkkaaDoorT7
set_option linter.unusedVariables false
namespace Go.Proofs.YthaocbfmdcmkkaaDoor.K
open Go.RowKit

def CountR (t : Tm) (L d : Int) (w : World) (e : Ending) (w' : World) : Prop := ∃ (n : Int) (is : Bool), e = .returned (.tuple #[.int .i64 n, .bool is]) ∧ 1 ≤ n ∧ n ≤ L + 1 ∧ (is = true → n ≤ L → t.size = n ∧ (t.depth : Int) ≤ d) ∧ Ext w w'
theorem count0_calls (t : Tm) (A : Option Addr) (c : Nat) (L : Int) (w : World) (hL0 : 0 ≤ L) :
    Calls Tryd.prog 28 #[tv t A c, .int .i64 L, .int .i64 0] w (CountR t L 0 w) := by
  go_enter Tryd.func28, Tryd.ntmps28
  go_wp2
  go_ret2
  exact ⟨1, false, rfl, by omega, by omega, by simp, (Ext.refl w).alloc _⟩
set_option maxHeartbeats 1000000 in
set_option maxRecDepth 100000 in
theorem count_calls (D : Nat) : ∀ (t : Tm) (A : Option Addr) (c : Nat) (L d : Int) (w : World), 0 ≤ d → d ≤ D → d ≤ 1000 → 0 ≤ L → L ≤ 1000 → Subs w 0 A t.sub →
    Calls Tryd.prog 28 #[tv t A c, .int .i64 L, .int .i64 d] w (CountR t L d w) := by
  induction D with
  | zero =>
    intro t A c L d w hd0 hd hD hL0 hL hs
    obtain rfl : d = 0 := by omega
    exact count0_calls t A c L w hL0
  | succ D ih =>
    intro t A c L d w hd0 hd hD hL0 hL hs
    by_cases hdz : d = 0
    · subst hdz; exact count0_calls t A c L w hL0
    have hz : (d == 0) = false := by simp [hdz]
    have hsz := t.size_eq
    have hdp := t.depth_eq
    go_enter Tryd.func28, Tryd.ntmps28
    go_wp2
    go_loopw [8, 9] (fun n i wr => ∃ (k : Nat) (m : Int), k ≤ t.sub.length ∧ (k : Int) + 1 ≤ m ∧ m ≤ L + 1 ∧ i = .int .i64 k ∧ n = .int .i64 m ∧ Hid (m ≤ L → (sizes (t.sub.take k) : Int) + 1 = m ∧ (depths (t.sub.take k) : Int) + 1 ≤ d) ∧ Ext w wr ∧ wr.heap[w.heap.size]? = some (.cells (cells6 t A c) 25 (0, 0))) (fun _ i _ => t.sub.length - (intOf i).toNat)
    case atStart => exact ⟨0, 1, by omega, by omega, by omega, rfl, rfl, fun _ => by simp [sizes, depths]; omega, (Ext.refl w).alloc _, heap_new w _⟩
    case round =>
      obtain ⟨k, m, hk, hkm, hmL, rfl, rfl, hm, hb, hB⟩ := hrel
      obtain ⟨q0, q1, q2, q3, q4, q5, q6⟩ := box6At hB
      by_cases hlt : k < t.sub.length
      · by_cases hmle : m ≤ L
        · obtain ⟨b, o, A', c', rfl, he⟩ := (hs.mono hb).at_ k hlt
          obtain ⟨h0, h1, h2, h3, h4, h5, hsub, _, _⟩ := he
          go_wp2_with (go_at_call 28; refine (ih t.sub[k] A' c' (L - m) (d - 1) _ (by omega) (by omega) (by omega) (by omega) (by omega) hsub).mono ?_; rintro e w2 ⟨n2, is2, rfl, g1, g2, g3, hb2⟩; cases is2 <;> (have G3 := Lib.hid g3; clear g3))
          · go_ret2
            exact ⟨m, false, rfl, by omega, by omega, by simp, hb.trans hb2⟩
          · have hst := sizes_take t.sub k hlt
            have hdt := depths_take t.sub k hlt
            go_roundw
            case rel =>
              refine ⟨k + 1, m + n2, by omega, by omega, by omega, by go_num, rfl, ?_, hb.trans hb2, hb2.heap hB⟩
              intro hle
              obtain ⟨a1, a2⟩ := hm.out hmle
              obtain ⟨a3, a4⟩ := G3.out (by first | rfl | trivial) (by omega)
              rw [hst, hdt]
              exact ⟨by omega, by omega⟩
            case measure => simp [intOf]; omega
        · go_wp2
          go_ret2
          exact ⟨m, true, rfl, by omega, by omega, fun _ h => by omega, hb⟩
      · have htk : t.sub.take k = t.sub := List.take_of_length_le (by omega)
        have Htk := Lib.hid htk
        clear htk
        by_cases hmle : m ≤ L
        · go_wp2
          go_ret2
          refine ⟨m, true, rfl, by omega, by omega, fun _ h => ?_, hb⟩
          have := hm.out hmle
          rw [Htk.out] at this
          omega
        · go_wp2
          go_ret2
          exact ⟨m, true, rfl, by omega, by omega, fun _ h => by omega, hb⟩

/-- All names are short. -/
def namesB (l : List Tm) : Bool := l.all fun x => decide (x.name.size ≤ 200)
set_option maxHeartbeats 1000000 in
set_option maxRecDepth 100000 in
theorem long_calls (N : Nat) : ∀ (t : Tm) (A : Option Addr) (c : Nat) (w : World), t.size ≤ N → N ≤ 1000000 → Subs w 0 A t.sub →
    Calls Tryd.prog 29 #[tv t A c] w fun e w' => e = .returned (.bool (!namesB t.nodes)) ∧ Ext w w' := by
  induction N with
  | zero => intro t A c w h; have := t.size_pos; omega
  | succ N ih =>
  intro t A c w hd hN hs
  have hz := t.size_eq
  have hl := length_le_sizes t.sub
  go_enter Tryd.func29, Tryd.ntmps29
  go_wp2
  go_loopw [3] (fun i wr => ∃ (k : Nat), k ≤ t.sub.length ∧ i = .int .i64 k ∧ Hid (namesB (nodess (t.sub.take k)) = true) ∧ Ext w wr ∧ wr.heap[w.heap.size]? = some (.cells (cells6 t A c) 25 (0, 0))) (fun i _ => t.sub.length - (intOf i).toNat)
  case atStart => exact ⟨0, by omega, rfl, rfl, (Ext.refl w).alloc _, heap_new w _⟩
  case round =>
    obtain ⟨k, hk, rfl, hn, hb, hB⟩ := hrel
    obtain ⟨q0, q1, q2, q3, q4, q5, q6⟩ := box6At hB
    by_cases hlt : k < t.sub.length
    · obtain ⟨b, o, A', c', rfl, he⟩ := (hs.mono hb).at_ k hlt
      obtain ⟨h0, h1, h2, h3, h4, h5, hsub, _, _⟩ := he
      have hzk := sizes_get t.sub k hlt
      cases hnk : namesB t.sub[k].nodes with
      | true =>
        go_wp2_with (go_at_call 29; refine (ih t.sub[k] A' c' _ (by omega) (by omega) hsub).mono ?_; rintro e w2 ⟨rfl, hb2⟩)
        go_roundw
        case rel => exact ⟨k + 1, by omega, by go_num, by show _ = _; rw [nodess_take _ _ hlt, namesB, List.all_append]; simp only [namesB] at hn hnk; rw [hn.out, hnk]; rfl, hb.trans hb2, hb2.heap hB⟩
        case measure => simp [intOf]; omega
      | false =>
        have hr : Hid (namesB t.nodes = false) := by
          show _ = _
          rw [t.nodes_eq, namesB, List.all_eq_false]
          simp only [namesB] at hnk
          obtain ⟨x, hx, hx2⟩ := List.all_eq_false.1 hnk
          exact ⟨x, List.mem_cons_of_mem _ ((nodess_split t.sub k hlt).subset (List.mem_append_right _ hx)), hx2⟩
        go_wp2_with (go_at_call 29; refine (ih t.sub[k] A' c' _ (by omega) (by omega) hsub).mono ?_; rintro e w2 ⟨rfl, hb2⟩)
        go_ret
        exact ⟨ret_bool (by rw [hr.out]; rfl), hb.trans hb2⟩
    · have hr : Hid (namesB t.nodes = decide (t.name.size ≤ 200)) := by
        show _ = _
        have htk : t.sub.take k = t.sub := List.take_of_length_le (by omega)
        rw [htk] at hn
        have := hn.out
        rw [t.nodes_eq, namesB, List.all_cons]
        simp only [namesB] at this
        rw [this]; simp
      go_wp2
      go_ret
      exact ⟨ret_bool (by rw [hr.out, ← decide_not]; congr 1; rw [eq_iff_iff]; omega), hb⟩

/-- What is known of a term that is not great. -/
structure Small (t : Tm) : Prop where
  size : t.size ≤ 500
  depth : t.depth ≤ 80
  names : ∀ x ∈ t.nodes, x.name.size ≤ 200
def GreatR (t : Tm) (w : World) (e : Ending) (w' : World) : Prop := ∃ g : Bool, e = .returned (.bool g) ∧ (g = false → Small t) ∧ Ext w w'
set_option maxHeartbeats 1000000 in
set_option maxRecDepth 100000 in
theorem great_calls (t : Tm) (A : Option Addr) (c : Nat) (w : World) (hs : Subs w 0 A t.sub) :
    Calls Tryd.prog 6 #[tv t A c] w (GreatR t w) := by
  go_enter Tryd.func6, Tryd.ntmps6
  go_wp2_with fail
  refine (count_calls 80 t A c 500 80 _ (by omega) (by omega) (by omega) (by omega) (by omega) (hs.mono ((Ext.refl w).alloc _))).mono ?_
  rintro e w2 ⟨n, is, rfl, g1, g2, g3, hb2⟩
  obtain ⟨q0, q1, q2, q3, q4, q5, q6⟩ := box6 hb2
  have G3 := Lib.hid g3
  clear g3
  cases is
  · go_wp2
    go_ret
    exact ⟨true, rfl, by simp, ((Ext.refl w).alloc _).trans hb2⟩
  · by_cases hn : n ≤ 500
    · obtain ⟨a1, a2⟩ := G3.out (by first | rfl | trivial) hn
      have hnn : n = t.size := a1.symm
      subst hnn
      go_wp2_with (go_at_call 29; refine (long_calls 1000000 t A c _ (by omega) (by omega) (hs.mono (((Ext.refl w).alloc _).trans hb2))).mono ?_; rintro e w3 ⟨rfl, hb3⟩)
      go_ret
      refine ⟨decide (500 < (t.size : Int)) || !namesB t.nodes, rfl, fun h => ⟨by omega, by omega, fun x hx => ?_⟩, (((Ext.refl w).alloc _).trans hb2).trans hb3⟩
      have h' : namesB t.nodes = true := by simp at h; exact h.2
      have := List.all_eq_true.1 h' x hx
      simpa using this
    · go_wp2
      go_ret
      exact ⟨true, rfl, by simp, ((Ext.refl w).alloc _).trans hb2⟩
end Go.Proofs.YthaocbfmdcmkkaaDoor.K
