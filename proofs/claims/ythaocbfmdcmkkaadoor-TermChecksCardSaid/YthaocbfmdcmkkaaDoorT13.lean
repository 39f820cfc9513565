/- Walks: Twin, replaced. -/
import Derived.Test.YthaocbfmdcmkkaaDoorT12
set_option linter.unusedVariables false
namespace Go.Proofs.YthaocbfmdcmkkaaDoor.K
open Go.RowKit

theorem infoTm : (Tryd.prog.info? 25).map (fun i => (i.zero, i.size, i.bytes)) = some (some (.agg #[.int .u8 0, .int .i64 0, .int .u64 0, .string ⟨#[]⟩, .int .i64 0, .slice none 0 0]), 6, 72) := by kernel_rfl

set_option maxHeartbeats 4000000 in
set_option maxRecDepth 100000 in
theorem twin_calls (N : Nat) : ∀ (t : Tm) (A : Option Addr) (c : Nat) (w : World), t.size ≤ N → N ≤ 1000000 → Subs w 0 A t.sub →
    Calls Tryd.prog 11 #[tv t A c] w fun e w' => ∃ A' c', e = .returned (tv t A' c') ∧ Subs w' w.heap.size A' t.sub ∧ Ext w w' := by
  induction N with
  | zero => intro t A c w h; have := t.size_pos; omega
  | succ N ih =>
  intro t A c w hd hN hs
  have hz := t.size_eq
  have hl := length_le_sizes t.sub
  go_enter Tryd.func11, Tryd.ntmps11
  go_wp2
  go_loopw [3, 9] (fun v i wr => ∃ (k : Nat) (els : List El), k ≤ t.sub.length ∧ i = .int .i64 k ∧ OwnTs wr (w.heap.size + 2) 25 (w.heap.size + 2) v els ∧ Hid (els.map El.t = t.sub.take k) ∧ Ext w wr ∧
      wr.heap[w.heap.size]? = some (.cells (cells6 t A c) 25 (0, 0)) ∧ wr.heap[w.heap.size + 1]? = some (.cells #[.int .u8 0, .int .i64 0, .int .u64 0, .string ⟨#[]⟩, .int .i64 0, .slice none 0 0] 25 (0, 0))) (fun _ i _ => t.sub.length - (intOf i).toNat)
  case atStart => exact ⟨0, [], by omega, rfl, OwnTs.nil _ _ _ _, rfl, ((Ext.refl _).alloc _).alloc _, ((Ext.refl _).alloc _).heap (heap_new w _), heap_new' (by simp)⟩
  case round =>
    obtain ⟨k, els, hk, rfl, HO, hels, hb, hB1, hB2⟩ := hrel
    have hlen : els.length = k := by have := congrArg List.length hels.out; simpa [Nat.min_eq_left hk] using this
    by_cases hlt : k < t.sub.length
    · obtain ⟨b, o, A', c', rfl, he⟩ := (hs.mono hb).at_ k hlt
      obtain ⟨h0, h1, h2, h3, h4, h5, hsub, _, _⟩ := he
      have hzk := sizes_get t.sub k hlt
      have hbs := hb.sz
      have hel : els.length ≤ 1000000 := by omega
      have hv := HO.lt
      have hB2s := heap_lt hB2
      go_wp2_with (first
        | (go_at_call 11; refine (ih t.sub[k] _ _ _ (by omega) (by omega) (hsub.mono ((Ext.refl _).alloc _))).mono ?_; rintro e w2 ⟨A2, c2, rfl, hs2, hb2⟩; have hz2 := hb2.sz; simp only [World.size_alloc] at hz2)
        | (at_builtin; refine wp_append_tm (w.heap.size + 2) (w.heap.size + 2) (wr.alloc (.cells (cells6 t.sub[k] A' c') 25)).heap.size rfl _ _ 23 25 rfl Tryd.underlying23 infoTm rfl _ els ⟨t.sub[k], A2, c2⟩ (HO.mono (((Ext.refl _).alloc _).trans hb2)) rfl rfl (by omega) hel hs2 (by simp; omega) (fun j hj => by have := (hv j hj).2; simp; omega) ?_; intro v1 w3 HO1 hg1))
      go_roundw
      case rel =>
        have hb3 : Ext wr w2 := ((Ext.refl _).alloc _).trans hb2
        have ho : ∀ j, j < w.heap.size + 2 → some j ≠ u3.ownBlock := fun j hj e => by have := (hv j e.symm).1; omega
        refine ⟨k + 1, _, by omega, by go_num, HO1, ?_, (hb.trans hb3).grown hg1 (fun j e => by have := (hv j e).1; omega), (hg1.block _ (by omega) (ho _ (by omega))).trans (hb3.heap hB1), (hg1.block _ (by omega) (ho _ (by omega))).trans (hb3.heap hB2)⟩
        show _ = _
        rw [List.map_append, hels.out, take_succ' _ _ hlt]; rfl
      case measure => simp [intOf]; omega
    · have htk : t.sub.take k = t.sub := List.take_of_length_le (by omega)
      rw [htk] at hels
      have hlen' : els.length = t.sub.length := by have := congrArg List.length hels.out; simpa using this
      obtain ⟨A', c', rfl⟩ := HO.slice
      obtain ⟨q0, q1, q2, q3, q4, q5, q6⟩ := box6At hB1
      have p0 := heap_cell hB2 0
      have p1 := heap_cell hB2 1
      have p2 := heap_cell hB2 2
      have p3 := heap_cell hB2 3
      have p4 := heap_cell hB2 4
      have p5 := heap_cell hB2 5
      simp only [List.getElem?_toArray, List.getElem?_cons_zero, List.getElem?_cons_succ] at p0 p1 p2 p3 p4 p5
      have f1 := heap_frozen hB1
      have f2 := heap_frozen hB2
      have hsu := HO.reads (by omega)
      rw [hels.out] at hsu
      go_wp2
      refine bodyPost_ret (v := tv t A' c') (by rw [hlen']; simp [results, Tryd.results11, go_sem, p0, p1, p2, p3, p4, p5]; omega) rfl ⟨A', c', rfl, ?_, ?_⟩
      · refine (hsu.agree fun b hb _ => ?_).lower (by omega)
        repeat (refine (Below.heap_setCell _ _ _ _ (by simp; omega)).trans ?_)
        rfl
      · repeat (refine Ext.set ?_ (by simp) _)
        exact hb

theorem reads_row {w : World} {base e lo : Nat} {A : Option Addr} {n c : Nat} {els : List El} (hlo : lo ≤ base) (h : w.ownsRow base e 6 (.slice A n c) els.length (els.flatMap El.cells)) (hsub : ∀ x ∈ els, Subs w lo x.A x.t.sub) : Subs w lo A (els.map El.t) := by
  rcases h.2 with ⟨h0, hn⟩ | ⟨g, cap, cur, h0, hg, hh, _⟩
  · obtain rfl : els = [] := List.eq_nil_of_length_eq_zero hn
    exact .nil _
  · cases h0
    refine Subs.of_at _ 0 fun i hi => ?_
    have hi' : i < els.length := by simpa using hi
    have hc : ∀ j, j < 6 → ∀ u, (els[i].cells)[j]? = some u → w.cell? ⟨g, 0 + i * 6 + j, none⟩ = some u := fun j hj u hu => by
      have := h.cells (g := g) rfl (i * 6 + j) u (by rw [flat_get els i hi' j hj]; exact hu)
      have ha : (⟨g, 0, none⟩ : Addr).add (i * 6 + j) = ⟨g, 0 + i * 6 + j, none⟩ := by unfold Addr.add; split <;> simp_all
      rwa [ha] at this
    refine ⟨els[i].A, els[i].c, ?_⟩
    simp only [List.getElem_map]
    exact ⟨hc 0 (by omega) _ rfl, hc 1 (by omega) _ rfl, hc 2 (by omega) _ rfl, hc 3 (by omega) _ rfl, hc 4 (by omega) _ rfl, hc 5 (by omega) _ rfl, hsub _ (List.getElem_mem hi'), Nat.le_trans hlo hg, .inr (heap_frozen hh)⟩
theorem row_agree {w W' : World} {base e size n : Nat} {v : Value} {xs : List Value} (h : w.ownsRow base e size v n xs) (hW : ∀ b, base ≤ b → b < w.heap.size → W'.heap[b]? = w.heap[b]?) : W'.ownsRow base e size v n xs := by
  obtain ⟨h1, h2⟩ := h
  refine ⟨h1, ?_⟩
  rcases h2 with h2 | ⟨g, cap, cur, hv, hb, hh, r⟩
  · exact .inl h2
  · exact .inr ⟨g, cap, cur, hv, hb, (hW g hb (heap_lt hh)).trans hh, r⟩
theorem putT_eq (n : ByteArray) (u t : Tm) : putT n u t = if t.kind = 2 ∧ t.name = n then u else ⟨t.kind, t.width, t.bits, t.name, t.low, puts n u t.sub⟩ := by cases t; rw [putT]
theorem puts_append (n : ByteArray) (u : Tm) (xs ys : List Tm) : puts n u (xs ++ ys) = puts n u xs ++ puts n u ys := by
  induction xs with
  | nil => rfl
  | cons x xs ih => simp [puts, ih]
theorem puts_take (n : ByteArray) (u : Tm) (xs : List Tm) (k : Nat) (h : k < xs.length) : puts n u (xs.take (k + 1)) = puts n u (xs.take k) ++ [putT n u xs[k]] := by rw [take_succ' _ _ h, puts_append]; rfl
theorem puts_length (n : ByteArray) (u : Tm) (xs : List Tm) : (puts n u xs).length = xs.length := by
  induction xs with
  | nil => rfl
  | cons x xs ih => simp [puts, ih]

section
variable {P : Program} {ops : Array Oper} {rest : List Oper} {o : Oper} {a : Act} {Q : Exit → Act → World → Prop}
/-- append(v, y), y a term just boxed. -/
theorem wp_append_tm2 {W : World} (base lo : Nat) (hgd : o.guard = none) (s x : Operand) (t e : TypeId) {z : Value}
    (ho : o.op = .call { callee := .builtin .append, args := #[s, x], argTypes := #[t, t] })
    (ht : P.underlying t = some (.slice e)) (hinfo : (P.info? e).map (fun i => (i.zero, i.size, i.bytes)) = some (some z, 6, 72)) (hz : z.cells.size = 6)
    (v : Value) (els : List El) (y : El) (HO : OwnTs W base e lo v els) (hs : a.eval s = v) (hx : a.eval x = .slice (some ⟨W.heap.size, 0, none⟩) 1 1)
    (hb : base ≤ W.heap.size) (hl : els.length ≤ 1000000) (hy : ∀ W' : World, (∀ b, b < W.heap.size → some b ≠ v.ownBlock → W'.heap[b]? = W.heap[b]?) → Subs W' lo y.A y.t.sub)
    (h : ∀ v1 w1, OwnTs w1 base e lo v1 (els ++ [y]) → W.grownBy w1 v.ownBlock → (v1.ownBlock = v.ownBlock ∨ ∃ b, v1.ownBlock = some b ∧ W.heap.size ≤ b) → wpList P ops Q rest (a.put o.dst v1) w1) :
    wpList P ops Q (o :: rest) a (W.alloc (.cells y.cells.toArray e)) := by
  obtain ⟨i0, hi, hzz⟩ := Option.map_eq_some_iff.1 hinfo
  simp only [Prod.mk.injEq] at hzz
  obtain ⟨hz0, hz1, hz2⟩ := hzz
  have hnb : ∀ u ∈ y.cells, u.oneCell' = true := by intro u hu; simp [El.cells] at hu; rcases hu with rfl | rfl | rfl | rfl | rfl | rfl <;> rfl
  refine wpList_append_own_at (W.alloc (.cells y.cells.toArray e)) hgd s x t ho base e i0 z 6 72 ht hi hz0 hz1 hz2 hz (by omega) v els.length (els.flatMap El.cells) hs (HO.row.alloc _) ⟨W.heap.size, 0, none⟩ 1 1 y.cells hx rfl
    (World.news_of_block (cs := y.cells.toArray) (t := e) (fr := (0, 0)) (heap_new W _)) hnb (by simp only [maxLen]; omega) (by omega) (by simp; omega) ?_
  intro v1 w1 hown hg _ hat
  have hga : W.grownBy w1 v.ownBlock := World.grownBy.trans (World.grownBy_alloc W _ _) hg
  refine h v1 w1 ⟨by simpa using hown, ?_⟩ hga (hat.imp id fun hat => ⟨_, hat, by simp⟩)
  intro q hq W' hW
  have key : ∀ b, b < W.heap.size → some b ≠ v.ownBlock → W'.heap[b]? = W.heap[b]? := fun b hlt hne => by
    refine (hW b (Nat.lt_of_lt_of_le hlt hga.size) ?_).trans (hga.block b hlt hne)
    rcases hat with hat | hat
    · rw [hat]; exact hne
    · rw [hat]; simp; omega
  rcases List.mem_append.1 hq with hq | hq
  · exact HO.subs q hq W' key
  · obtain rfl : q = y := by simpa using hq
    exact hy W' key
end
set_option maxHeartbeats 4000000 in
set_option maxRecDepth 100000 in
theorem replaced_calls (u : Tm) (nm : ByteArray) (w₀ : World) (N : Nat) : ∀ (t : Tm) (A Au : Option Addr) (c cu : Nat) (w : World), t.size ≤ N → N ≤ 1000000 → Ext w₀ w → Subs w₀ 0 A t.sub → Subs w₀ 0 Au u.sub →
    Calls Tryd.prog 32 #[tv t A c, .string nm, tv u Au cu] w fun e w' => ∃ A' c', e = .returned (tv (putT nm u t) A' c') ∧
      (∀ W' : World, (∀ b, b < w'.heap.size → (b < w₀.heap.size ∨ w.heap.size ≤ b) → W'.heap[b]? = w'.heap[b]?) → Subs W' 0 A' (putT nm u t).sub) ∧ Ext w w' := by
  induction N with
  | zero => intro t A Au c cu w h; have := t.size_pos; omega
  | succ N ih =>
  intro t A Au c cu w hd hN hw hs hsu
  have hz := t.size_eq
  have hl := length_le_sizes t.sub
  have hpt := putT_eq nm u t
  have hwz := hw.sz
  by_cases hv : t.kind = 2 ∧ t.name = nm
  · obtain ⟨hk, hn⟩ := hv
    rw [if_pos ⟨hk, hn⟩] at hpt
    rw [hpt]
    have hk' : (t.kind == 2) = true := by simp [hk]
    subst hn
    clear hpt hk
    go_enter Tryd.func32, Tryd.ntmps32
    go_wp2
    refine bodyPost_ret (v := tv u Au cu) (by simp [results, Tryd.results32, go_sem]) rfl ⟨Au, cu, rfl, fun W' hW => ?_, (((Ext.refl w).alloc _).alloc _).alloc _⟩
    refine hsu.agree fun b _ hb => ?_
    have e1 : Ext w₀ (((w.alloc (.cells (cells6 t A c) 25)).alloc (.cells (cells6 u Au cu) 25)).alloc (.cells (cells6 u Au cu) 25)) := ((hw.alloc _).alloc _).alloc _
    exact (hW b (by simp; omega) (.inl hb)).trans (e1.b.block b hb)
  · rw [if_neg hv] at hpt
    have hk' : (t.kind == 2) = false ∨ ((t.kind == 2) = true ∧ (t.name.toList == nm.toList) = false) := by
      by_cases h1 : t.kind = 2
      · exact .inr ⟨by simp [h1], name_ne (fun h2 => hv ⟨h1, h2⟩)⟩
      · exact .inl (by simp [h1])
    clear hv
    rw [hpt]
    clear hpt
    rcases hk' with hk1 | ⟨hk1, hk2⟩
    all_goals
      go_enter Tryd.func32, Tryd.ntmps32
      go_wp2
      go_loopw [7, 23] (fun v i wr => ∃ (k : Nat) (els : List El), k ≤ t.sub.length ∧ i = .int .i64 k ∧ OwnTs wr (w.heap.size + 3) 25 0 v els ∧
          Hid (∀ x ∈ els, ∀ W' : World, (∀ b, b < wr.heap.size → (b < w₀.heap.size ∨ w.heap.size + 3 ≤ b) → some b ≠ v.ownBlock → W'.heap[b]? = wr.heap[b]?) → Subs W' 0 x.A x.t.sub) ∧
          Hid (els.map El.t = puts nm u (t.sub.take k)) ∧ Ext w wr ∧
          wr.heap[w.heap.size]? = some (.cells (cells6 t A c) 25 (0, 0)) ∧ wr.heap[w.heap.size + 1]? = some (.cells (cells6 u Au cu) 25 (0, 0)) ∧
          wr.heap[w.heap.size + 2]? = some (.cells #[.int .u8 0, .int .i64 0, .int .u64 0, .string ⟨#[]⟩, .int .i64 0, .slice none 0 0] 25 (0, 0))) (fun _ i _ => t.sub.length - (intOf i).toNat)
      case atStart => exact ⟨0, [], by omega, rfl, OwnTs.nil _ _ _ _, fun x h => by simp at h, rfl, (((Ext.refl _).alloc _).alloc _).alloc _, (((Ext.refl _).alloc _).alloc _).heap (heap_new w _), ((Ext.refl _).alloc _).heap (heap_new' (by simp)), heap_new' (by simp)⟩
      case round =>
        obtain ⟨k, els, hk, rfl, HO, hst, hels, hb, hB1, hB2, hB3⟩ := hrel
        have hlen : els.length = k := by have := congrArg List.length hels.out; simpa [puts_length, Nat.min_eq_left hk] using this
        obtain ⟨r0, r1, r2, r3, r4, r5, r6⟩ := box6At hB2
        have hB3s := heap_lt hB3
        by_cases hlt : k < t.sub.length
        · obtain ⟨b, o, A', c', rfl, he0⟩ := hs.at_ k hlt
          obtain ⟨h0, h1, h2, h3, h4, h5, hsub, _, _⟩ := he0.mono (hw.trans hb)
          have hs0 := he0.sub
          have hzk := sizes_get t.sub k hlt
          have hbs := hb.sz
          have hel : els.length ≤ 1000000 := by omega
          have hv := HO.lt
          go_wp2_with (first
            | (go_at_call 32; refine (ih t.sub[k] _ _ _ _ _ (by omega) (by omega) ((hw.trans hb).alloc _) hs0 hsu).mono ?_; rintro e w2 ⟨A2, c2, rfl, hs2, hb2⟩; have hz2 := hb2.sz; simp only [World.size_alloc] at hz2)
            | (at_builtin; refine wp_append_tm2 (w.heap.size + 3) 0 rfl _ _ 23 25 rfl Tryd.underlying23 infoTm rfl _ els ⟨putT nm u t.sub[k], A2, c2⟩ (HO.mono (((Ext.refl _).alloc _).trans hb2)) rfl rfl (by omega) hel (fun W' hW => hs2 W' fun b1 hb1 hb3 => hW b1 hb1 (fun e => by have := hv b1 e.symm; simp at hb3; omega)) ?_; intro v1 w3 HO1 hg1 hat))
          go_roundw
          case rel =>
            have hb3 : Ext wr w2 := ((Ext.refl _).alloc _).trans hb2
            have ho : ∀ j, j < w.heap.size + 3 → some j ≠ u7.ownBlock := fun j hj e => by have := (hv j e.symm).1; omega
            refine ⟨k + 1, _, by omega, by go_num, HO1, ?_, ?_, (hb.trans hb3).grown hg1 (fun j e => by have := (hv j e).1; omega), (hg1.block _ (by omega) (ho _ (by omega))).trans (hb3.heap hB1), (hg1.block _ (by omega) (ho _ (by omega))).trans (hb3.heap hB2), (hg1.block _ (by omega) (ho _ (by omega))).trans (hb3.heap hB3)⟩
            · intro x hx W' hW
              have key : ∀ b1, b1 < w2.heap.size → (b1 < w₀.heap.size ∨ w.heap.size + 3 ≤ b1) → some b1 ≠ u7.ownBlock → W'.heap[b1]? = w2.heap[b1]? := fun b1 h1 h2 h3 => by
                refine (hW b1 (Nat.lt_of_lt_of_le h1 hg1.size) h2 ?_).trans (hg1.block b1 h1 h3)
                rcases hat with hat | ⟨b2, hat, hb2⟩
                · rw [hat]; exact h3
                · rw [hat]; simp; omega
              rcases List.mem_append.1 hx with hx | hx
              · exact hst.out x hx W' fun b1 h1 h2 h3 => (key b1 (by omega) h2 h3).trans (hb3.b.block b1 h1)
              · obtain rfl : x = _ := by simpa using hx
                refine hs2 W' fun b1 h1 h2 => key b1 h1 (h2.imp id fun h2 => by simp at h2; omega) fun e => ?_
                have := hv b1 e.symm
                simp at h2; omega
            · show _ = _
              rw [List.map_append, hels.out, puts_take _ _ _ _ hlt]; rfl
          case measure => simp [intOf]; omega
        · have htk : t.sub.take k = t.sub := List.take_of_length_le (by omega)
          rw [htk] at hels
          have hlen' : els.length = t.sub.length := by have := congrArg List.length hels.out; simpa [puts_length] using this
          obtain ⟨A', c', rfl⟩ := HO.slice
          obtain ⟨q0, q1, q2, q3, q4, q5, q6⟩ := box6At hB1
          have p0 := heap_cell hB3 0
          have p1 := heap_cell hB3 1
          have p2 := heap_cell hB3 2
          have p3 := heap_cell hB3 3
          have p4 := heap_cell hB3 4
          have p5 := heap_cell hB3 5
          simp only [List.getElem?_toArray, List.getElem?_cons_zero, List.getElem?_cons_succ] at p0 p1 p2 p3 p4 p5
          have f1 := heap_frozen hB1
          have f2 := heap_frozen hB3
          have hpl : (puts nm u t.sub).length = t.sub.length := puts_length _ _ _
          clear r0 r1 r2 r3 r4 r5 hlen
          go_wp2
          refine bodyPost_ret (v := tv ⟨t.kind, t.width, t.bits, t.name, t.low, puts nm u t.sub⟩ A' c') (by simp [results, Tryd.results32, go_sem, p0, p1, p2, p3, p4, p5, hlen', hpl]) rfl ⟨A', c', rfl, fun W' hW => ?_, ?_⟩
          · have key : ∀ b1, b1 < wr.heap.size → (b1 < w₀.heap.size ∨ w.heap.size + 3 ≤ b1) → W'.heap[b1]? = wr.heap[b1]? := fun b1 h1 h2 => by
              refine (hW b1 (by simpa using h1) (h2.imp id fun h => by omega)).trans ?_
              repeat (refine (Below.heap_setCell _ _ _ _ (by simp; omega)).trans ?_)
              rfl
            have := reads_row (lo := 0) (by omega) (row_agree (W' := W') HO.row fun b1 h1 h2 => key b1 h2 (.inr h1)) (fun x hx => hst.out x hx W' fun b1 h1 h2 _ => key b1 h1 h2)
            rwa [hels.out] at this
          · repeat (refine Ext.set ?_ (by first | (simp; done) | (simp; omega)) _)
            exact hb
end Go.Proofs.YthaocbfmdcmkkaaDoor.K
