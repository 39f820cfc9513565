/- Walks: Pure; the reference's Loads and Pure. -/
import Derived.Test.YthaocbfmdcmkkaaDoorT20
import Derived.Test.YthaocbfmdcmkkaaDoorT11
set_option linter.unusedVariables false
namespace Go.Proofs.YthaocbfmdcmkkaaDoor.K
open Go.RowKit Go.Shelf
attribute [local go_sem] Oper.semAt_some

theorem pureB_bad {t : Tm} (h : checkE t ≠ 0) : pureB t = false := by
  unfold pureB; rw [beq_eq_false_iff_ne.2 h]; rfl
theorem pureB_ok {t : Tm} (h : checkE t = 0) : pureB t = t.nodes.all (fun x => x.kind != 24) := by
  unfold pureB; rw [h]; rfl
set_option maxHeartbeats 4000000 in
set_option maxRecDepth 100000 in
theorem pure_calls (t : Tm) (A : Option Addr) (c : Nat) (w : World) (hM : t.size ≤ 1000000) (hs : Subs w 0 A t.sub) (hok : OkT t) (hG : Shapes w) :
    Calls Tryd.prog 16 #[tv t A c] w fun e w' => e = .returned (.bool (pureB t)) ∧ Ext w w' := by
  have e0 : Ext w ((w.alloc (.cells (cells6 t A c) 25)).alloc (.cells #[.bool false] 4)) := ((Ext.refl w).alloc _).alloc _
  have hchk := fun W (h : Ext w W) => check_calls t A c W hM (hs.mono h) hok (hG.mono h)
  by_cases h1 : checkE t = 0
  · have hr := Lib.hid (pureB_ok h1)
    rw [h1] at hchk
    clear h1
    refine (callsIn_wide (n := 5)).1 ?_
    refine callsIn_of_wp_marks Tryd.func16 rfl trivial ?_ rfl
    simp only [Tryd.ntmps16, List.size_toArray, List.length_cons, List.length_nil, Nat.reduceAdd, Nat.reduceSub, Array.replicate_succ, Array.replicate_zero, List.push_toArray, List.append_toArray, List.nil_append, List.cons_append]
    gi_wp2_with ((try refine ⟨trivial, ?_⟩); (try refine ⟨hdd _, ?_⟩); (first
        | (gi_at_call 14; refine (callsIn_wide.2 (hchk _ (by exact e0))).mono ?_; rintro e w1 ⟨rfl, hb1⟩; obtain ⟨q0, q1, q2, q3, q4, q5, q6⟩ := box6 (((Ext.refl _).alloc _).trans hb1))
        | (gi_at_call 38; refine (callsIn_wide.2 (nodes_calls t A c _)).mono ?_; rintro e w' ⟨rfl, rfl⟩)))
    have e2 : Ext w w1 := e0.trans hb1
    have e3 := hb1.heap (heap_new' (b := w.heap.size + 1) (by simp))
    have e4 := hb1.sz
    simp only [World.size_alloc] at e4
    clear q0 q1 q2 q3 q4 q5 q6
    refine range_nodesB (w₀ := w) (n := 3) (q := 3) t A c w1.heap.size rfl (heap_new w1 _) (e2.alloc _) hs hM (fun _ => True) (fun _ _ => trivial)
      (fun pre W => W.heap[w.heap.size + 1]? = some (.cells #[.bool false] 4 (0, 0)) ∧ pre.all (fun x => x.kind != 24) = true)
      (fun pre W => W.heap[w.heap.size + 1]? = some (.cells #[.bool false] 4 (0, 0)) ∧ pre.all (fun x => x.kind != 24) = false) ?hI ?hIx ?h0 ?assign ?body ?done ?stop
    case hI => exact fun pre W W' h hk => ⟨(hk _ (by omega) (by simp; omega)).trans h.1, h.2⟩
    case hIx => exact fun pre W W' h hk => ⟨(hk _ (by omega) (by simp; omega)).trans h.1, h.2⟩
    case h0 => exact ⟨((Ext.refl w1).alloc _).heap e3, rfl⟩
    case assign =>
      intro l x A' c' W K hK
      gi_wp2
      exact hK
    case body =>
      rintro l pre x A' c' Bx W - hlen hE hz hs' ⟨hi1, hi2⟩ hBx hb
      obtain ⟨b0, b1, b2, b3, b4, b5, b6⟩ := box6At hb
      obtain ⟨r1, r2, r3⟩ := boxAt hi1
      have hlt : w.heap.size + 1 < w1.heap.size + 1 := by omega
      cases hk : (x.kind == 24) with
      | true =>
        gi_wp2
        exact ⟨(Keep.refl _ _ W).set (by simp) (by simpa using hlt) _, heap_set1 hi1 _, by rw [List.all_append, hi2]; simp [bne, hk]⟩
      | false =>
        gi_wp2
        exact ⟨Keep.refl _ _ W, hi1, by rw [List.all_append, hi2]; simp [bne, hk]⟩
    case done =>
      rintro D W hD ⟨hi1, hi2⟩ hx hk
      obtain ⟨r1, r2, r3⟩ := boxAt hi1
      simp only [World.size_alloc] at hD
      gi_wp2
      refine ⟨by simp, .inl ⟨_, _, rfl, run_takeDeferred ((Below.heap_setCell _ _ _ _ (by simp; omega)).trans hk), ?_⟩⟩
      have p1 := heap_cell ((World.putObj_heap_other (o := .deferred none) (show w.heap.size + 1 ≠ D by omega)).trans (heap_set1 hi1 (.bool true))) 0
      simp only [List.getElem?_toArray, List.getElem?_cons_zero] at p1
      exact ⟨.bool true, by simp [results, Tryd.results16, go_sem, p1], ret_bool (by rw [hr.out, hi2]), (hx.set (by simp) _).put (by omega) _⟩
    case stop =>
      rintro D pre W hD hp ⟨hi1, hi2⟩ hx hk
      have hr' : Hid (pureB t = false) := by
        show _ = _
        obtain ⟨r, hr2⟩ := hp
        rw [hr.out, ← hr2, List.all_append, hi2]; rfl
      simp only [World.size_alloc] at hD
      gi_wp2
      refine ⟨by simp, .inl ⟨_, _, rfl, run_takeDeferred hk, ?_⟩⟩
      have p1 := heap_cell ((World.putObj_heap_other (o := .deferred none) (show w.heap.size + 1 ≠ D by omega)).trans hi1) 0
      simp only [List.getElem?_toArray, List.getElem?_cons_zero] at p1
      exact ⟨.bool false, by simp [results, Tryd.results16, go_sem, p1], ret_bool hr'.out.symm, hx.put (by omega) _⟩
  · have hr := Lib.hid (pureB_bad h1)
    have h1' : (checkE t != 0) = true := by simpa [bne] using h1
    clear h1
    go_enter Tryd.func16, Tryd.ntmps16
    go_wp2_with (go_at_call 14; refine (hchk _ (by exact e0)).mono ?_; rintro e w1 ⟨rfl, hb1⟩; obtain ⟨p1, p2, p3⟩ := boxAt (hb1.heap (heap_new' (b := w.heap.size + 1) (by simp))))
    exact bodyPost_ret (v := .bool false) (by simp [results, Tryd.results16, go_sem, p1, p2, p3]) rfl ⟨ret_bool hr.out.symm, (e0.trans hb1).set (by simp) _⟩

def loadsT (t : Tm) : Bool := t.nodes.any (fun x => x.kind == 24)
theorem pureB_loads (t : Tm) : pureB t = (checkE t == 0 && !loadsT t) := by
  unfold pureB loadsT
  congr 1
  rw [List.not_any_eq_all_not]; rfl
set_option maxHeartbeats 1000000 in
set_option maxRecDepth 100000 in
theorem rloadsT_calls (N : Nat) : ∀ (t : Tm) (A : Option Addr) (c : Nat) (w : World), t.size ≤ N → N ≤ 1000000 → Subs w 0 A t.sub →
    Calls Tryd.prog 41 #[tv t A c] w fun e w' => e = .returned (.bool (loadsT t)) ∧ Ext w w' := by
  induction N with
  | zero => intro t A c w h; have := t.size_pos; omega
  | succ N ih =>
  intro t A c w hd hN hs
  have hz := t.size_eq
  have hl := length_le_sizes t.sub
  go_enter Tryd.func41, Tryd.ntmps41
  go_wp2
  go_loopw [3] (fun i wr => ∃ (k : Nat), k ≤ t.sub.length ∧ i = .int .i64 k ∧ Hid ((nodess (t.sub.take k)).any (fun x => x.kind == 24) = false) ∧ Ext w wr ∧ wr.heap[w.heap.size]? = some (.cells (cells6 t A c) 25 (0, 0))) (fun i _ => t.sub.length - (intOf i).toNat)
  case atStart => exact ⟨0, by omega, rfl, rfl, (Ext.refl w).alloc _, heap_new w _⟩
  case round =>
    obtain ⟨k, hk, rfl, hn, hb, hB⟩ := hrel
    obtain ⟨q0, q1, q2, q3, q4, q5, q6⟩ := box6At hB
    by_cases hlt : k < t.sub.length
    · obtain ⟨b, o, A', c', rfl, he⟩ := (hs.mono hb).at_ k hlt
      obtain ⟨h0, h1, h2, h3, h4, h5, hsub, _, _⟩ := he
      have hzk := sizes_get t.sub k hlt
      cases hnk : loadsT t.sub[k] with
      | false =>
        go_wp2_with (go_at_call 41; refine (ih t.sub[k] A' c' _ (by omega) (by omega) hsub).mono ?_; rintro e w2 ⟨rfl, hb2⟩)
        go_roundw
        case rel => exact ⟨k + 1, by omega, by go_num, by show _ = _; rw [nodess_take _ _ hlt, List.any_append, hn.out]; exact hnk, hb.trans hb2, hb2.heap hB⟩
        case measure => simp [intOf]; omega
      | true =>
        have hr : Hid (loadsT t = true) := by
          show _ = _
          obtain ⟨x, hx, hx2⟩ := List.any_eq_true.1 hnk
          exact List.any_eq_true.2 ⟨x, by rw [t.nodes_eq]; exact List.mem_cons_of_mem _ (nodess_mem hlt hx), hx2⟩
        go_wp2_with (go_at_call 41; refine (ih t.sub[k] A' c' _ (by omega) (by omega) hsub).mono ?_; rintro e w2 ⟨rfl, hb2⟩)
        go_ret
        exact ⟨ret_bool (by rw [hr.out]), hb.trans hb2⟩
    · have hr : Hid (loadsT t = (t.kind == 24)) := by
        show _ = _
        have htk : t.sub.take k = t.sub := List.take_of_length_le (by omega)
        rw [htk] at hn
        unfold loadsT
        rw [t.nodes_eq, List.any_cons, hn.out, Bool.or_false]
      go_wp2
      go_ret
      exact ⟨ret_bool (by rw [hr.out]), hb⟩
set_option maxHeartbeats 1000000 in
set_option maxRecDepth 100000 in
theorem rpure_calls (t : Tm) (A : Option Addr) (c : Nat) (w : World) (hM : t.size ≤ 1000000) (hs : Subs w 0 A t.sub) (hok : OkT t) :
    Calls Tryd.prog 17 #[tv t A c] w fun e w' => e = .returned (.bool (pureB t)) ∧ Ext w w' := by
  have hp := pureB_loads t
  have e0 : Ext w (w.alloc (.cells (cells6 t A c) 25)) := (Ext.refl w).alloc _
  have hchk := fun W (h : Ext w W) => rcheck_calls t A c W hM (hs.mono h) hok
  have hlod := fun W (h : Ext w W) => rloadsT_calls t.size t A c W (Nat.le_refl _) hM (hs.mono h)
  cases h1 : (checkE t == 0) with
  | true =>
    rw [h1] at hp
    replace hp := Lib.hid hp
    go_enter Tryd.func17, Tryd.ntmps17
    go_wp2_with (first
      | (go_at_call 15; refine (hchk _ (by exact e0)).mono ?_; rintro e w1 ⟨rfl, hb1⟩; obtain ⟨q0, q1, q2, q3, q4, q5, q6⟩ := box6 hb1)
      | (go_at_call 41; refine (hlod _ (by exact e0.trans hb1)).mono ?_; rintro e w2 ⟨rfl, hb2⟩))
    go_ret
    exact ⟨ret_bool (by rw [hp.out]; rfl), (e0.trans hb1).trans hb2⟩
  | false =>
    rw [h1] at hp
    replace hp := Lib.hid hp
    go_enter Tryd.func17, Tryd.ntmps17
    go_wp2_with (go_at_call 15; refine (hchk _ (by exact e0)).mono ?_; rintro e w1 ⟨rfl, hb1⟩)
    go_ret
    exact ⟨ret_bool (by rw [hp.out]; rfl), e0.trans hb1⟩
end Go.Proofs.YthaocbfmdcmkkaaDoor.K
