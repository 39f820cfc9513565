/- Walks, the reference: list. -/
import Derived.Test.YthaocbfmdcmkkaaDoorP1
import Derived.Laws.AppendOwnNone
import Derived.Maps.AppendAt
set_option linter.unusedVariables false
namespace Go.Proofs.YthaocbfmdcmkkaaDoor.K
open Go.RowKit

theorem infoB : (Tryd.prog.info? 59).map (fun i => (i.zero, i.size, i.bytes)) = some (some (.agg #[.string ⟨#[]⟩, .int .i64 0, .int .u64 0]), 3, 32) := by kernel_rfl

section
variable {P : Program} {ops : Array Oper} {rest : List Oper} {o : Oper} {a : Act} {Q : Exit → Act → World → Prop}
/-- append(v, v2...), both rows of the call's own. -/
theorem wp_append_rows {W : World} (base base2 : Nat) (hgd : o.guard = none) (s x : Operand) (t e : TypeId) (size bytes : Nat) {z : Value}
    (ho : o.op = .call { callee := .builtin .append, args := #[s, x], argTypes := #[t, t] })
    (ht : P.underlying t = some (.slice e)) (hinfo : (P.info? e).map (fun i => (i.zero, i.size, i.bytes)) = some (some z, size, bytes)) (hz : z.cells.size = size) (hsz : 0 < size)
    (v : Value) (n : Nat) (xs : List Value) (HO : W.ownsRow base e size v n xs) (hs : a.eval s = v)
    (v2 : Value) (n2 : Nat) (xs2 : List Value) (HO2 : W.ownsRow base2 e size v2 n2 xs2) (hx : a.eval x = v2) (h1 : ∀ u ∈ xs2, u.oneCell' = true)
    (h63 : n + n2 ≤ maxLen) (hbytes : (n + n2) * bytes ≤ 140737488355328) (hb : base ≤ W.heap.size)
    (h : ∀ v1 w1, w1.ownsRow base e size v1 (n + n2) (xs ++ xs2) → W.grownBy w1 v.ownBlock → wpList P ops Q rest (a.put o.dst v1) w1) :
    wpList P ops Q (o :: rest) a W := by
  obtain ⟨i0, hi, hzz⟩ := Option.map_eq_some_iff.1 hinfo
  simp only [Prod.mk.injEq] at hzz
  obtain ⟨hz0, hz1, hz2⟩ := hzz
  rcases HO2.2 with ⟨rfl, rfl⟩ | ⟨g, cap, cur, rfl, hg⟩
  · obtain rfl : xs2 = [] := List.eq_nil_of_length_eq_zero (by simpa using HO2.1)
    exact wpList_append_own_none hgd s x t ho base e i0 size ht hi v n xs hs HO hx (h v W (by simpa using HO) (World.grownBy.refl W _))
  · exact wpList_append_own_at W hgd s x t ho base e i0 z size bytes ht hi hz0 hz1 hz2 hz hsz v n xs hs HO ⟨g, 0, none⟩ n2 cap xs2 hx HO2.1 (HO2.cells (g := g) rfl) h1 h63 hbytes hb
      fun v1 w1 ho1 hg1 _ _ => h v1 w1 ho1 hg1
/-- append(v, y), y a struct just boxed. -/
theorem wp_append_box {W : World} (base : Nat) (hgd : o.guard = none) (s x : Operand) (t e : TypeId) (size bytes : Nat) {z : Value}
    (ho : o.op = .call { callee := .builtin .append, args := #[s, x], argTypes := #[t, t] })
    (ht : P.underlying t = some (.slice e)) (hinfo : (P.info? e).map (fun i => (i.zero, i.size, i.bytes)) = some (some z, size, bytes)) (hz : z.cells.size = size) (hsz : 0 < size)
    (v : Value) (n : Nat) (xs : List Value) (HO : W.ownsRow base e size v n xs) (hs : a.eval s = v)
    (ys : List Value) (hy : ys.length = size) (hx : a.eval x = .slice (some ⟨W.heap.size, 0, none⟩) 1 1) (h1 : ∀ u ∈ ys, u.oneCell' = true)
    (h63 : n + 1 ≤ maxLen) (hbytes : (n + 1) * bytes ≤ 140737488355328) (hb : base ≤ W.heap.size)
    (h : ∀ v1 w1, w1.ownsRow base e size v1 (n + 1) (xs ++ ys) → W.grownBy w1 v.ownBlock → wpList P ops Q rest (a.put o.dst v1) w1) :
    wpList P ops Q (o :: rest) a (W.alloc (.cells ys.toArray e)) := by
  obtain ⟨i0, hi, hzz⟩ := Option.map_eq_some_iff.1 hinfo
  simp only [Prod.mk.injEq] at hzz
  obtain ⟨hz0, hz1, hz2⟩ := hzz
  exact wpList_append_own_at (W.alloc (.cells ys.toArray e)) hgd s x t ho base e i0 z size bytes ht hi hz0 hz1 hz2 hz hsz v n xs hs (HO.alloc _) ⟨W.heap.size, 0, none⟩ 1 1 ys hx (by simpa using hy)
      (World.news_of_block (cs := ys.toArray) (t := e) (fr := (0, 0)) (heap_new W _)) h1 h63 hbytes (by simp; omega)
      fun v1 w1 ho1 hg1 _ _ => h v1 w1 ho1 (World.grownBy.trans (World.grownBy_alloc W _ _) hg1)
end

/-- The cells of these bindings. -/
def bcells (l : List (ByteArray × Int)) : List Value := l.flatMap fun v => [.string v.1, .int .i64 v.2, .int .u64 0]
theorem bcells_append (a b : List (ByteArray × Int)) : bcells (a ++ b) = bcells a ++ bcells b := by simp [bcells]
theorem bcells_one (l : List (ByteArray × Int)) : ∀ u ∈ bcells l, u.oneCell' = true := by
  intro u hu
  obtain ⟨v, _, hv⟩ := List.mem_flatMap.1 hu
  simp at hv
  rcases hv with rfl | rfl | rfl <;> rfl
theorem vars_eq (t : Tm) : t.vars = (if t.isVar then [(t.name, t.width)] else []) ++ varsL (nodess t.sub) := by unfold Tm.vars; rw [t.nodes_eq, varsL_cons]
theorem vars_len (t : Tm) : t.vars.length ≤ t.size := by
  unfold Tm.vars varsL
  rw [List.length_map, ← t.nodes_length]
  exact List.length_filter_le _ _
theorem varsL_len (ts : List Tm) : (varsL (nodess ts)).length ≤ sizes ts := by
  induction ts with
  | nil => simp [nodess, varsL]
  | cons t ts ih => rw [nodess, varsL_append, List.length_append, sizes]; have := vars_len t; unfold Tm.vars at this; omega
def ListR (t : Tm) (w : World) (e : Ending) (w' : World) : Prop := ∃ v, e = .returned v ∧ w'.ownsRow w.heap.size 59 3 v t.vars.length (bcells t.vars) ∧ Ext w w'
set_option maxHeartbeats 4000000 in
set_option maxRecDepth 100000 in
theorem list_calls (N : Nat) : ∀ (t : Tm) (A : Option Addr) (c : Nat) (w : World), t.size ≤ N → N ≤ 1000000 → Subs w 0 A t.sub →
    Calls Tryd.prog 33 #[tv t A c] w (ListR t w) := by
  induction N with
  | zero => intro t A c w h; have := t.size_pos; omega
  | succ N ih =>
  intro t A c w hd hN hs
  have hz := t.size_eq
  have hl := length_le_sizes t.sub
  have hv0 := vars_eq t
  cases hk2 : (t.kind == 2) with
  | false =>
    have hpre : (if t.isVar then [(t.name, t.width)] else []) = [] := by rw [if_neg (by simp [Tm.isVar, hk2])]
    rw [hpre] at hv0
    obtain ⟨pre0, hp0⟩ : ∃ pre0 : List (ByteArray × Int), pre0 = [] := ⟨_, rfl⟩
    rw [← hp0] at hv0
    have hV : Hid (t.vars = pre0 ++ varsL (nodess t.sub)) := hv0
    have hpl : pre0.length ≤ 1 := by rw [hp0]; decide
    replace hp0 := Lib.hid hp0
    clear hv0 hpre
    go_enter Tryd.func33, Tryd.ntmps33
    go_wp2
    go_loopw [3, 4] (fun v i wr => ∃ (k : Nat), k ≤ t.sub.length ∧ i = .int .i64 k ∧ wr.ownsRow (w.heap.size + 1) 59 3 v (pre0 ++ varsL (nodess (t.sub.take k))).length (bcells (pre0 ++ varsL (nodess (t.sub.take k)))) ∧ Ext w wr ∧ wr.heap[w.heap.size]? = some (.cells (cells6 t A c) 25 (0, 0))) (fun _ i _ => t.sub.length - (intOf i).toNat)
    case atStart => exact ⟨0, by omega, rfl, by rw [hp0.out]; exact World.ownsRow_nil _ _ _ _, (Ext.refl w).alloc _, heap_new w _⟩
    case round =>
      obtain ⟨k, hk, rfl, HO, hb, hB⟩ := hrel
      obtain ⟨q0, q1, q2, q3, q4, q5, q6⟩ := box6At hB
      have hpre0' : pre0.length ≤ 1 := hpl
      by_cases hlt : k < t.sub.length
      · obtain ⟨b, o, A', c', rfl, he⟩ := (hs.mono hb).at_ k hlt
        obtain ⟨h0, h1, h2, h3, h4, h5, hsub, _, _⟩ := he
        have hzk := sizes_get t.sub k hlt
        have hsn : Hid (pre0 ++ varsL (nodess (t.sub.take (k + 1))) = (pre0 ++ varsL (nodess (t.sub.take k))) ++ t.sub[k].vars) := by show _ = _; rw [nodess_take _ _ hlt, varsL_append, List.append_assoc]; rfl
        have hn1 : (pre0 ++ varsL (nodess (t.sub.take k))).length ≤ sizes (t.sub.take k) + 1 := by have := varsL_len (t.sub.take k); rw [List.length_append]; omega
        have hn2 := sizes_take_le t.sub k
        have hn3 := vars_len t.sub[k]
        have hsz := hb.sz
        obtain ⟨pre, hpre⟩ : ∃ pre, pre = pre0 ++ varsL (nodess (t.sub.take k)) := ⟨_, rfl⟩
        rw [← hpre] at HO hsn hn1
        clear hpre
        go_wp2_with (first
          | (go_at_call 33; refine (ih t.sub[k] A' c' _ (by omega) (by omega) hsub).mono ?_; rintro e w2 ⟨v2, rfl, HO2, hb2⟩; have hz2 := hb2.sz)
          | (at_builtin; refine wp_append_rows (w.heap.size + 1) wr.heap.size rfl _ _ 35 59 3 32 rfl Tryd.underlying35 infoB rfl (by omega) _ _ _ (HO.kept (hb2.grownBy none) (by cases hv : u3.ownBlock <;> simp)) rfl _ _ _ HO2 rfl (bcells_one _) (by simp only [maxLen]; omega) (by omega) (by omega) ?_; intro v1 w3 HO1 hg1))
        have hv := HO.lt
        go_roundw
        case rel => exact ⟨k + 1, by omega, by go_num, by rw [hsn.out, List.length_append, bcells_append]; exact HO1, (hb.trans hb2).grown hg1 (fun j e => by have := (hv j e).1; omega), (hg1.block _ (by omega) (fun e => by have := (hv _ e.symm).1; omega)).trans (hb2.heap hB)⟩
        case measure => simp [intOf]; omega
      · have htk : t.sub.take k = t.sub := List.take_of_length_le (by omega)
        rw [htk, ← hV.out] at HO
        clear htk
        go_wp2
        go_ret
        exact ⟨_, rfl, ⟨HO.1, HO.2.imp id fun ⟨g, cap, cur, h1, h2, h3⟩ => ⟨g, cap, cur, h1, by omega, h3⟩⟩, hb⟩
  | true =>
    have hpre : (if t.isVar then [(t.name, t.width)] else []) = [(t.name, t.width)] := by rw [if_pos (by simpa [Tm.isVar] using hk2)]
    rw [hpre] at hv0
    obtain ⟨pre0, hp0⟩ : ∃ pre0 : List (ByteArray × Int), pre0 = [(t.name, t.width)] := ⟨_, rfl⟩
    rw [← hp0] at hv0
    have hV : Hid (t.vars = pre0 ++ varsL (nodess t.sub)) := hv0
    have hpl : pre0.length ≤ 1 := by rw [hp0]; simp
    replace hp0 := Lib.hid hp0
    clear hv0 hpre
    go_enter Tryd.func33, Tryd.ntmps33
    go_wp2_with (at_builtin; refine wp_append_box (W := w.alloc (.cells (cells6 t A c) 25)) (w.heap.size + 1) rfl _ _ 35 59 3 32 rfl Tryd.underlying35 infoB rfl (by omega) _ _ _ (World.ownsRow_nil _ _ _ _) rfl [.string t.name, .int .i64 t.width, .int .u64 0] rfl (by simp [go_sem]) (bcells_one [(t.name, t.width)]) (by decide) (by decide) (by simp) ?_; intro v1 w3 HO1 hg1)
    go_loopw [3, 4] (fun v i wr => ∃ (k : Nat), k ≤ t.sub.length ∧ i = .int .i64 k ∧ wr.ownsRow (w.heap.size + 1) 59 3 v (pre0 ++ varsL (nodess (t.sub.take k))).length (bcells (pre0 ++ varsL (nodess (t.sub.take k)))) ∧ Ext w wr ∧ wr.heap[w.heap.size]? = some (.cells (cells6 t A c) 25 (0, 0))) (fun _ i _ => t.sub.length - (intOf i).toNat)
    case atStart => exact ⟨0, by omega, rfl, by rw [hp0.out]; exact HO1, ((Ext.refl w).alloc _).trans (Ext.of_grown hg1), (Ext.of_grown hg1).heap (heap_new w _)⟩
    case round =>
      obtain ⟨k, hk, rfl, HO, hb, hB⟩ := hrel
      obtain ⟨q0, q1, q2, q3, q4, q5, q6⟩ := box6At hB
      have hpre0' : pre0.length ≤ 1 := hpl
      by_cases hlt : k < t.sub.length
      · obtain ⟨b, o, A', c', rfl, he⟩ := (hs.mono hb).at_ k hlt
        obtain ⟨h0, h1, h2, h3, h4, h5, hsub, _, _⟩ := he
        have hzk := sizes_get t.sub k hlt
        have hsn : Hid (pre0 ++ varsL (nodess (t.sub.take (k + 1))) = (pre0 ++ varsL (nodess (t.sub.take k))) ++ t.sub[k].vars) := by show _ = _; rw [nodess_take _ _ hlt, varsL_append, List.append_assoc]; rfl
        have hn1 : (pre0 ++ varsL (nodess (t.sub.take k))).length ≤ sizes (t.sub.take k) + 1 := by have := varsL_len (t.sub.take k); rw [List.length_append]; omega
        have hn2 := sizes_take_le t.sub k
        have hn3 := vars_len t.sub[k]
        have hsz := hb.sz
        obtain ⟨pre, hpre⟩ : ∃ pre, pre = pre0 ++ varsL (nodess (t.sub.take k)) := ⟨_, rfl⟩
        rw [← hpre] at HO hsn hn1
        clear hpre
        go_wp2_with (first
          | (go_at_call 33; refine (ih t.sub[k] A' c' _ (by omega) (by omega) hsub).mono ?_; rintro e w2 ⟨v2, rfl, HO2, hb2⟩; have hz2 := hb2.sz)
          | (at_builtin; refine wp_append_rows (w.heap.size + 1) wr.heap.size rfl _ _ 35 59 3 32 rfl Tryd.underlying35 infoB rfl (by omega) _ _ _ (HO.kept (hb2.grownBy none) (by cases hv : u3.ownBlock <;> simp)) rfl _ _ _ HO2 rfl (bcells_one _) (by simp only [maxLen]; omega) (by omega) (by omega) ?_; intro v1 w3 HO1 hg1))
        have hv := HO.lt
        go_roundw
        case rel => exact ⟨k + 1, by omega, by go_num, by rw [hsn.out, List.length_append, bcells_append]; exact HO1, (hb.trans hb2).grown hg1 (fun j e => by have := (hv j e).1; omega), (hg1.block _ (by omega) (fun e => by have := (hv _ e.symm).1; omega)).trans (hb2.heap hB)⟩
        case measure => simp [intOf]; omega
      · have htk : t.sub.take k = t.sub := List.take_of_length_le (by omega)
        rw [htk, ← hV.out] at HO
        clear htk
        go_wp2
        go_ret
        exact ⟨_, rfl, ⟨HO.1, HO.2.imp id fun ⟨g, cap, cur, h1, h2, h3⟩ => ⟨g, cap, cur, h1, by omega, h3⟩⟩, hb⟩

end Go.Proofs.YthaocbfmdcmkkaaDoor.K
