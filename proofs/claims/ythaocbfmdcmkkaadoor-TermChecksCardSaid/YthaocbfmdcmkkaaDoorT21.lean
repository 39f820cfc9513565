/- Walks, the reference: Twin. -/
import Derived.Test.YthaocbfmdcmkkaaDoorT13
import Derived.Deep.RegionLaw
import Derived.Deep.RegionLawGrows
import Derived.Deep.DrawnRows
set_option linter.unusedVariables false
namespace Go.Proofs.YthaocbfmdcmkkaaDoor.K
open Go.RowKit
attribute [local go_sem ↓] Go.wp_at_zero Go.wp_at_succ

/-- A row of terms stands where only blocks below are written. -/
theorem OwnTs.agree {w w' : World} {base e lo : Nat} {v : Value} {els : List El} (h : OwnTs w base e lo v els) (hlo : lo ≤ base) (hz : w.heap.size ≤ w'.heap.size) (hW : ∀ b, lo ≤ b → b < w.heap.size → w'.heap[b]? = w.heap[b]?) : OwnTs w' base e lo v els := by
  refine ⟨row_agree h.row fun b hb hs => hW b (Nat.le_trans hlo hb) hs, fun x hx W' hW' => ?_⟩
  have hown : ∀ b, b < lo → some b ≠ v.ownBlock := fun b hb e => by have := (h.lt b e.symm).1; omega
  let W2 : World := { W' with heap := Array.ofFn (fun i : Fin W'.heap.size => if hi : i.1 < lo ∧ i.1 < w.heap.size then w.heap[i.1]'hi.2 else W'.heap[i.1]) }
  have hg : ∀ b, W2.heap[b]? = if hb : b < W'.heap.size then some (if hi : b < lo ∧ b < w.heap.size then w.heap[b]'hi.2 else W'.heap[b]) else none := fun b => by
    show (Array.ofFn _)[b]? = _
    rw [Array.getElem?_ofFn]
  have h2 : Subs W2 lo x.A x.t.sub := h.subs x hx W2 fun b hb hne => by
    rw [hg]
    by_cases hbl : b < lo
    · have h3 := hW' b (Nat.lt_of_lt_of_le hb hz) hne
      have h4 : b < W'.heap.size := by
        refine Nat.lt_of_not_le fun hge => ?_
        rw [Array.getElem?_eq_none hge] at h3
        rw [Array.getElem?_eq_getElem (Nat.lt_of_lt_of_le hb hz)] at h3; cases h3
      rw [dif_pos h4, dif_pos ⟨hbl, hb⟩, Array.getElem?_eq_getElem hb]
    · have h3 := (hW' b (Nat.lt_of_lt_of_le hb hz) hne).trans (hW b (by omega) hb)
      rw [← h3]
      by_cases h4 : b < W'.heap.size
      · rw [dif_pos h4, dif_neg (fun h => hbl h.1), Array.getElem?_eq_getElem h4]
      · rw [dif_neg h4, Array.getElem?_eq_none (by omega)]
  refine h2.agree fun b hb hs => ?_
  have hs' : b < W'.heap.size := by simpa [W2] using hs
  rw [hg, dif_pos hs', dif_neg (fun h => by omega), Array.getElem?_eq_getElem hs']

section
variable {P : Program}
/-- append(v, y), y a term just boxed, at a step of a region that draws. -/
theorem step_append_tm {ops : Array Oper} {o : Oper} {a : Act} {K : Act → World → Prop} {Q : Exit → Act → World → Prop} {E : Prop} {W : World} (base lo lo' : Nat) (hgd : o.guard = none) (s x : Operand) (t e : TypeId) {z : Value}
    (ho : o.op = .call { callee := .builtin .append, args := #[s, x], argTypes := #[t, t] })
    (ht : P.underlying t = some (.slice e)) (hinfo : (P.info? e).map (fun i => (i.zero, i.size, i.bytes)) = some (some z, 6, 72)) (hz : z.cells.size = 6)
    (v : Value) (els : List El) (y : El) (HO : OwnTs W base e lo v els) (hs : a.eval s = v) (hx : a.eval x = .slice (some ⟨W.heap.size, 0, none⟩) 1 1)
    (hb : base ≤ W.heap.size) (hl : els.length ≤ 1000000) (hy : Subs W lo' y.A y.t.sub) (hlo : lo ≤ lo') (hv : ∀ k, v.ownBlock = some k → k < lo')
    (h : ∀ g c w1, OwnTs w1 base e lo (.slice (some ⟨g, 0, none⟩) (els.length + 1) c) (els ++ [y]) → W.grownBy w1 v.ownBlock → K (a.put o.dst (.slice (some ⟨g, 0, none⟩) (els.length + 1) c)) w1) :
    if Region.wanted o (yielded ops a.tmps) = true then Oper.wp P o a (W.alloc (.cells y.cells.toArray e)) K Q else E := by
  obtain ⟨i0, hi, hzz⟩ := Option.map_eq_some_iff.1 hinfo
  simp only [Prod.mk.injEq] at hzz
  obtain ⟨hz0, hz1, hz2⟩ := hzz
  have hnb : ∀ u ∈ y.cells, u.oneCell' = true := by intro u hu; simp [El.cells] at hu; rcases hu with rfl | rfl | rfl | rfl | rfl | rfl <;> rfl
  refine step_append_lies (W.alloc (.cells y.cells.toArray e)) hgd s x t ho base e i0 z 6 72 ht hi hz0 hz1 hz2 hz (by omega) v els.length (els.flatMap El.cells) hs (HO.row.alloc _) ⟨W.heap.size, 0, none⟩ 1 1 y.cells hx rfl
    (World.news_of_block (cs := y.cells.toArray) (t := e) (fr := (0, 0)) (heap_new W _)) hnb (by omega) (by simp only [maxLen]; omega) (by omega) (by simp; omega) (W.heap.size + 1) (by simp) ?_
  intro g c w1 hown hg hat _
  have hga : W.grownBy w1 v.ownBlock := World.grownBy.trans (World.grownBy_alloc W _ _) hg
  refine h g c w1 ⟨by simpa using hown, ?_⟩ hga
  intro q hq W' hW
  have key : ∀ b, b < W.heap.size → some b ≠ v.ownBlock → W'.heap[b]? = W.heap[b]? := fun b hlt hne => by
    refine (hW b (Nat.lt_of_lt_of_le hlt hga.size) ?_).trans (hga.block b hlt hne)
    rcases hat with hat | hat
    · rw [hat] at hne; exact hne
    · subst hat; simp [Value.ownBlock]; omega
  rcases List.mem_append.1 hq with hq | hq
  · exact HO.subs q hq W' key
  · obtain rfl : q = y := by simpa using hq
    exact (hy.agree (W' := W') fun b h1 h2 => key b h2 (fun e => by have := hv b e.symm; omega)).lower hlo
end

set_option maxHeartbeats 4000000 in
set_option maxRecDepth 100000 in
theorem rtwin_calls (N : Nat) : ∀ (t : Tm) (A : Option Addr) (c : Nat) (w : World), t.size ≤ N → N ≤ 1000000 → Subs w 0 A t.sub →
    Calls Tryd.prog 7 #[tv t A c] w fun e w' => ∃ A' c', e = .returned (tv t A' c') ∧ Subs w' w.heap.size A' t.sub ∧ Ext w w' := by
  induction N with
  | zero => intro t A c w h; have := t.size_pos; omega
  | succ N ih =>
  intro t A c w hd hN hs
  have hz := t.size_eq
  have hl := length_le_sizes t.sub
  go_enter Tryd.func7, Tryd.ntmps7
  go_wp2
  go_loopw [4] (fun i wr => ∃ (k : Nat) (els : List El) (v : Value), k ≤ t.sub.length ∧ i = .int .i64 k ∧ OwnTs wr (w.heap.size + 3) 25 (w.heap.size + 3) v els ∧ Hid (els.map El.t = t.sub.take k) ∧ Ext w wr ∧
      wr.heap[w.heap.size]? = some (.cells (cells6 t A c) 25 (0, 0)) ∧
      wr.heap[w.heap.size + 1]? = some (.cells #[.int .u8 0, .int .i64 0, .int .u64 0, .string ⟨#[]⟩, .int .i64 0, .slice none 0 0] 25 (0, 0)) ∧
      wr.heap[w.heap.size + 2]? = some (.cells #[.int .u8 t.kind, .int .i64 t.width, .int .u64 t.bits, .string t.name, .int .i64 t.low, v] 25 (0, 0))) (fun i _ => t.sub.length - (intOf i).toNat)
  case atStart => exact ⟨0, [], _, by omega, rfl, OwnTs.nil _ _ _ _, rfl, (((Ext.refl _).alloc _).alloc _).alloc _, (((Ext.refl _).alloc _).alloc _).heap (heap_new w _), ((Ext.refl _).alloc _).heap (heap_new' (by simp)), heap_new' (by simp)⟩
  case round =>
    obtain ⟨k, els, v, hk, rfl, HO, hels, hb, hB1, hB2, hB3⟩ := hrel
    have hlen : els.length = k := by have := congrArg List.length hels.out; simpa [Nat.min_eq_left hk] using this
    have hel0 : els.length ≤ k := Nat.le_of_eq hlen
    clear hlen
    obtain ⟨q0, q1, q2, q3, q4, q5, q6⟩ := box6At hB1
    have p5 := heap_cell hB3 5
    simp only [List.getElem?_toArray, List.getElem?_cons_zero, List.getElem?_cons_succ] at p5
    by_cases hlt : k < t.sub.length
    · obtain ⟨b, o, A', c', rfl, he⟩ := (hs.mono hb).at_ k hlt
      obtain ⟨h0, h1, h2, h3, h4, h5, hsub, _, _⟩ := he
      have hzk := sizes_get t.sub k hlt
      have hbs := hb.sz
      have hel : els.length ≤ 1000000 := by omega
      have hv := HO.lt
      have hB3s := heap_lt hB3
      have f5 := heap_frozen hB3 5
      have hw1 : wr.heap.size ≤ 1000000000000 ∨ True := .inr trivial
      go_wp2_with fail
      go_region_law (first
        | ((refine step_append_tm (w.heap.size + 3) (w.heap.size + 3) wr.heap.size rfl _ _ 23 25 rfl Tryd.underlying23 infoTm rfl v els ⟨t.sub[k], A2, c2⟩ (HO.mono hbA) (by rfl) (by rfl) (by omega) hel hs2 (by omega) (fun j hj => (hv j hj).2) ?_; intro g2 c3 w3 HO1 hg1
            have hg5 := (hg1.block (w.heap.size + 2) (by omega) (fun e => by have := (hv _ e.symm).1; omega)).trans hB3'
            have r5 := heap_cell hg5 5; have rf := heap_frozen hg5 5; simp only [List.getElem?_toArray, List.getElem?_cons_zero, List.getElem?_cons_succ] at r5))
        | ((go_simp; go_at_call 7; refine (ih t.sub[k] _ _ _ (by omega) (by omega) (hsub.mono (by exact (Ext.refl _).drew))).mono ?_; rintro e w2 ⟨A2, c2, rfl, hs2, hb2⟩; have hz2 := hb2.sz; simp only [World.size_drew] at hz2 hs2; have p5' := hb2.cell p5; have hl2 : w.heap.size + 1 + 1 < w2.heap.size := (by omega); have hB3' := hb2.heap hB3; have hbA : Ext wr w2 := ((Ext.refl wr).drew).trans hb2)))
      all_goals
        have hgz := hg1.size
        have ho : ∀ j, j < w.heap.size + 3 → some j ≠ v.ownBlock := fun j hj e => by have := (hv j e.symm).1; omega
        have hE3 : Ext w w3 := (hb.trans hbA).grown hg1 (fun j e => by have := (hv j e).1; omega)
        have hn1 : Hid ((els ++ [(⟨t.sub[k], A2, c2⟩ : El)]).map El.t = t.sub.take (k + 1)) := by show _ = _; rw [List.map_append, hels.out, take_succ' _ _ hlt]; rfl
        have g1 := (hg1.block w.heap.size (by omega) (ho _ (by omega))).trans (hbA.heap hB1)
        have g2' := (hg1.block (w.heap.size + 1) (by omega) (ho _ (by omega))).trans (hbA.heap hB2)
        clear hels
        go_wp2
        go_roundw
        case rel =>
          refine ⟨k + 1, els ++ [⟨t.sub[k], A2, c2⟩], .slice (some ⟨g2, 0, none⟩) (els.length + 1) c3, by omega, by go_num, ?_, hn1, hE3.set (by show w.heap.size ≤ w.heap.size + 1 + 1; omega) _, (Below.heap_setCell _ _ _ _ (by show w.heap.size ≠ w.heap.size + 1 + 1; omega)).trans g1, (Below.heap_setCell _ _ _ _ (by show w.heap.size + 1 ≠ w.heap.size + 1 + 1; omega)).trans g2', ?_⟩
          · exact HO1.agree (Nat.le_refl _) (by simp) (fun b hb _ => Below.heap_setCell _ _ _ _ (by simp; omega))
          · simp [World.setCell, Array.getElem?_modify, hg5]
        case measure => simp [intOf]; omega
    · have htk : t.sub.take k = t.sub := List.take_of_length_le (by omega)
      rw [htk] at hels
      have hlen' : els.length = t.sub.length := by have := congrArg List.length hels.out; simpa using this
      obtain ⟨A', c', rfl⟩ := HO.slice
      have p0 := heap_cell hB3 0
      have p1 := heap_cell hB3 1
      have p2 := heap_cell hB3 2
      have p3 := heap_cell hB3 3
      have p4 := heap_cell hB3 4
      have r0 := heap_cell hB2 0
      have r1 := heap_cell hB2 1
      have r2 := heap_cell hB2 2
      have r3 := heap_cell hB2 3
      have r4 := heap_cell hB2 4
      have r5 := heap_cell hB2 5
      simp only [List.getElem?_toArray, List.getElem?_cons_zero, List.getElem?_cons_succ] at p0 p1 p2 p3 p4 r0 r1 r2 r3 r4 r5
      have f2 := heap_frozen hB2
      have hsu := HO.reads (by omega)
      rw [hels.out] at hsu
      go_wp2
      refine bodyPost_ret (v := tv t A' c') (by simp [results, Tryd.results7, go_sem, r0, r1, r2, r3, r4, r5]) rfl ⟨A', c', rfl, ?_, ?_⟩
      · refine (hsu.agree fun b hb _ => ?_).lower (by omega)
        repeat (refine (Below.heap_setCell _ _ _ _ (by simp; omega)).trans ?_)
        rfl
      · repeat (refine Ext.set ?_ (by simp) _)
        exact hb
end Go.Proofs.YthaocbfmdcmkkaaDoor.K
