/- Walks: Subst. -/
import Derived.Test.YthaocbfmdcmkkaaDoorP1
import Derived.Test.YthaocbfmdcmkkaaDoorT13
import Derived.Maps.OwnOps
import Derived.Deep.RegionHeld3
set_option linter.unusedVariables false
namespace Go.Proofs.YthaocbfmdcmkkaaDoor.K
open Go.RowKit

/-- What a call that answers a term and a code comes to: the term is new. -/
def TermR (r : Tm) (x : Int) (w : World) (e : Ending) (w' : World) : Prop := ∃ A c, e = .returned (.tuple #[tv r A c, .int .i64 x]) ∧ Subs w' w.heap.size A r.sub ∧ Ext w w'
abbrev zeroCells : Array Value := #[.int .u8 0, .int .i64 0, .int .u64 0, .string ⟨#[]⟩, .int .i64 0, .slice none 0 0]
theorem TermR.zero {x : Int} {w w' : World} {e : Ending} (he : e = .returned (.tuple #[.agg zeroCells, .int .i64 x])) (h : Ext w w') : TermR noTm x w e w' := ⟨Option.none, 0, he, .nil _, h⟩

theorem zboxAt {w : World} {b : Nat} {T : TypeId} (h : w.heap[b]? = some (.cells zeroCells T (0, 0))) :
    w.cell? ⟨b, 0, none⟩ = some (.int .u8 0) ∧ w.cell? ⟨b, 1, none⟩ = some (.int .i64 0) ∧ w.cell? ⟨b, 2, none⟩ = some (.int .u64 0) ∧ w.cell? ⟨b, 3, none⟩ = some (.string ⟨#[]⟩) ∧ w.cell? ⟨b, 4, none⟩ = some (.int .i64 0) ∧
    w.cell? ⟨b, 5, none⟩ = some (.slice none 0 0) ∧ (∀ i, w.frozen? ⟨b, i, none⟩ = false) ∧ b < w.heap.size :=
  ⟨heap_cell h 0, heap_cell h 1, heap_cell h 2, heap_cell h 3, heap_cell h 4, heap_cell h 5, heap_frozen h, heap_lt h⟩
set_option maxHeartbeats 4000000 in
set_option maxRecDepth 100000 in
theorem subst1_calls (t u : Tm) (nm : ByteArray) (A Au : Option Addr) (c cu : Nat) (w : World) (hM : t.size ≤ 1000000) (hMu : u.size ≤ 1000000) (hs : Subs w 0 A t.sub) (hsu : Subs w 0 Au u.sub) (hok : OkT t) (hoku : OkT u) (hG : Shapes w) (hnm : nm.size ≤ 140737488351232) (h1 : checkE t ≠ 0) :
    Calls Tryd.prog 8 #[tv t A c, .string nm, tv u Au cu] w (TermR (substE t nm u).1 (substE t nm u).2 w) := by
  have hr : substE t nm u = (noTm, checkE t) := by unfold substE; rw [if_pos h1]
  rw [hr]
  clear hr
  have h1' : (checkE t != 0) = true := by simpa [bne] using h1
  go_enter Tryd.func8, Tryd.ntmps8
  go_wp2_with (go_at_call 14; refine (check_calls t A c _ hM (hs.mono ((((Ext.refl w).alloc _).alloc _).alloc _)) hok (hG.mono ((((Ext.refl w).alloc _).alloc _).alloc _))).mono ?_; rintro e w1 ⟨rfl, hb1⟩; obtain ⟨z0, z1, z2, z3, z4, z5, z6, z7⟩ := zboxAt (hb1.heap (heap_new' (b := w.heap.size + 2) (by simp))))
  refine bodyPost_ret (v := .tuple #[.agg zeroCells, .int .i64 (checkE t)]) (by simp [results, Tryd.results8, go_sem, z0, z1, z2, z3, z4, z5]) rfl (TermR.zero rfl ?_)
  repeat (refine Ext.set ?_ (by first | (simp; done) | (simp; omega)) _)
  exact ((((Ext.refl w).alloc _).alloc _).alloc _).trans hb1

set_option maxHeartbeats 4000000 in
set_option maxRecDepth 100000 in
theorem subst2_calls (t u : Tm) (nm : ByteArray) (A Au : Option Addr) (c cu : Nat) (w : World) (hM : t.size ≤ 1000000) (hMu : u.size ≤ 1000000) (hs : Subs w 0 A t.sub) (hsu : Subs w 0 Au u.sub) (hok : OkT t) (hoku : OkT u) (hG : Shapes w) (hnm : nm.size ≤ 140737488351232) (h1 : checkE t = 0) (h2 : checkE u ≠ 0) :
    Calls Tryd.prog 8 #[tv t A c, .string nm, tv u Au cu] w (TermR (substE t nm u).1 (substE t nm u).2 w) := by
  have hr : substE t nm u = (noTm, checkE u) := by unfold substE; rw [if_neg (by simp [h1]), if_pos h2]
  rw [hr]
  clear hr
  have h1' : (checkE t != 0) = false := by simp [bne, h1]
  have h2' : (checkE u != 0) = true := by simpa [bne] using h2
  have e0 : Ext w (((w.alloc (.cells (cells6 t A c) 25)).alloc (.cells (cells6 u Au cu) 25)).alloc (.cells zeroCells 25)) := ((((Ext.refl w).alloc _).alloc _).alloc _)
  go_enter Tryd.func8, Tryd.ntmps8
  go_wp2_with fail
  refine (check_calls t A c _ hM (hs.mono e0) hok (hG.mono e0)).mono ?_
  rintro e w1 ⟨rfl, hb1⟩
  obtain ⟨q0, q1, q2, q3, q4, q5, q6⟩ := box6At (hb1.heap ((((Ext.refl _).alloc _)).heap (heap_new' (b := w.heap.size + 1) (by simp))))
  go_wp2_with fail
  refine (check_calls u Au cu _ hMu (hsu.mono (e0.trans hb1)) hoku (hG.mono (e0.trans hb1))).mono ?_
  rintro e w2 ⟨rfl, hb2⟩
  obtain ⟨z0, z1, z2, z3, z4, z5, z6, z7⟩ := zboxAt ((hb1.trans hb2).heap (heap_new' (b := w.heap.size + 2) (by simp)))
  go_wp2
  refine bodyPost_ret (v := .tuple #[.agg zeroCells, .int .i64 (checkE u)]) (by simp [results, Tryd.results8, go_sem, z0, z1, z2, z3, z4, z5]) rfl (TermR.zero rfl ?_)
  repeat (refine Ext.set ?_ (by first | (simp; done) | (simp; omega)) _)
  exact (e0.trans hb1).trans hb2
theorem any_conf {l : List (ByteArray × Int)} {n : ByteArray} {x : Int} (hc : clash l = false) : (l.any (fun v => decide (v.1 = n) && v.2 != x) = true) ↔ ∃ y, (n, y) ∈ l ∧ y ≠ x := by
  rw [List.any_eq_true]
  constructor
  · rintro ⟨⟨m, y⟩, hm, h⟩
    simp [bne] at h
    exact ⟨y, by rw [← h.1]; exact hm, h.2⟩
  · rintro ⟨y, hm, h⟩
    exact ⟨_, hm, by simp [bne, h]⟩
set_option maxHeartbeats 4000000 in
set_option maxRecDepth 100000 in
theorem subst3_calls (t u : Tm) (nm : ByteArray) (A Au : Option Addr) (c cu : Nat) (w : World) (hM : t.size ≤ 1000000) (hMu : u.size ≤ 1000000) (hs : Subs w 0 A t.sub) (hsu : Subs w 0 Au u.sub) (hok : OkT t) (hoku : OkT u) (hG : Shapes w) (hnm : nm.size ≤ 140737488351232) (h1 : checkE t = 0) (h2 : checkE u = 0) (hany' : t.vars.any (fun v => decide (v.1 = nm) && v.2 != u.width) = true) :
    Calls Tryd.prog 8 #[tv t A c, .string nm, tv u Au cu] w (TermR (substE t nm u).1 (substE t nm u).2 w) := by
  obtain ⟨ht1, ht2, ht3, ht4⟩ := checkE_ok h1
  obtain ⟨hu1, hu2, hu3, hu4⟩ := checkE_ok h2
  have h1' : (checkE t != 0) = false := by simp [bne, h1]
  have h2' : (checkE u != 0) = false := by simp [bne, h2]
  have e0 : Ext w (((w.alloc (.cells (cells6 t A c) 25)).alloc (.cells (cells6 u Au cu) 25)).alloc (.cells zeroCells 25)) := ((((Ext.refl w).alloc _).alloc _).alloc _)
  have hkey := nkey_of hnm
  have hhas := has_mapD t.vars nm
  have Hs : Hid (substE t nm u = if t.vars.any (fun v => decide (v.1 = nm) && v.2 != u.width) then (noTm, 14)
      else if 400 < (t.size : Int) + timesN nm t.vars * (u.size - 1) then (noTm, 4)
      else if checkE (putT nm u t) ≠ 0 then (noTm, checkE (putT nm u t))
      else (putT nm u t, 0)) := by show _ = _; unfold substE; rw [if_neg (by simp [h1]), if_neg (by simp [h2])]
  rw [Hs.out]
  clear h1 h2 ht2 hu2
  go_enter Tryd.func8, Tryd.ntmps8
  go_wp2_with fail
  refine (check_calls t A c _ hM (hs.mono e0) hok (hG.mono e0)).mono ?_
  rintro e w1 ⟨rfl, hb1⟩
  have B1 := hb1.heap ((((Ext.refl _).alloc _)).heap (heap_new' (b := w.heap.size + 1) (by simp)))
  have B0 := hb1.heap (((((Ext.refl _).alloc _)).alloc _).heap (heap_new' (b := w.heap.size) rfl))
  have B2 := hb1.heap (heap_new' (b := w.heap.size + 2) (by simp))
  obtain ⟨q0, q1, q2, q3, q4, q5, q6⟩ := box6At B1
  have E1 := e0.trans hb1
  clear e0 hb1
  go_wp2_with fail
  refine (check_calls u Au cu _ hMu (hsu.mono E1) hoku (hG.mono E1)).mono ?_
  rintro e w2 ⟨rfl, hb2⟩
  replace B0 := hb2.heap B0
  replace B1 := hb2.heap B1
  replace B2 := hb2.heap B2
  replace E1 := E1.trans hb2
  clear q0 q1 q2 q3 q4 q5 q6 hb2
  obtain ⟨p0, p1, p2, p3, p4, p5, p6⟩ := box6At B0
  go_wp2_with fail
  refine (variables_good t A c _ hM (hs.mono E1) hok ht4).mono ?_
  rintro e w3 ⟨bm, nb, rfl, hown, hbm, hnb, hb3⟩
  replace B0 := hb3.heap B0
  replace B1 := hb3.heap B1
  replace B2 := hb3.heap B2
  replace E1 := E1.trans hb3
  clear p0 p1 p2 p3 p4 p5 p6 hb3
  obtain ⟨z0, z1, z2, z3, z4, z5, z6, z7⟩ := zboxAt B2
  obtain ⟨q0, q1, q2, q3, q4, q5, q6⟩ := box6At B1
  cases hany : t.vars.any (fun v => decide (v.1 = nm) && v.2 != u.width) with
  | true =>
    obtain ⟨y, hy1, hy2⟩ := (any_conf ht4).1 hany
    have hh : t.vars.any (fun v => decide (v.1 = nm)) = true := List.any_eq_true.2 ⟨_, hy1, by simp⟩
    rw [hh] at hhas
    have haty := Lib.hid (atKey_mapD ht4 hy1 (.lit (.int .i64 0)))
    have hyx : (y != u.width) = true := by simpa [bne] using hy2
    go_wp2_with (at_lookup; refine wpList_lookup_own_ok_int _ rfl _ _ 52 rfl 9 3 .i64 (Maps.string_keyed Tryd.underlying9) Tryd.underlying52 Tryd.underlying3 (zeroInt _) bm nb _ rfl hown _ (nkey nm) rfl hkey ?_; intro c0 hat hwf; rw [hhas]; obtain rfl : c0 = y := by (have := hat.symm.trans haty.out; simpa using this))
    refine bodyPost_ret (v := .tuple #[.agg zeroCells, .int .i64 14]) (by simp [results, Tryd.results8, go_sem, z0, z1, z2, z3, z4, z5]) rfl (TermR.zero rfl ?_)
    repeat (refine Ext.set ?_ (by first | (simp; done) | (simp; omega)) _)
    exact E1
  | false => exact absurd hany' (by simp [hany])
/-- The cells of a term's box. -/
abbrev BoxC (W : World) (b : Nat) (t : Tm) (A : Option Addr) (c : Nat) : Prop :=
  W.cell? ⟨b, 0, none⟩ = some (.int .u8 t.kind) ∧ W.cell? ⟨b, 1, none⟩ = some (.int .i64 t.width) ∧ W.cell? ⟨b, 2, none⟩ = some (.int .u64 t.bits) ∧
    W.cell? ⟨b, 3, none⟩ = some (.string t.name) ∧ W.cell? ⟨b, 4, none⟩ = some (.int .i64 t.low) ∧ W.cell? ⟨b, 5, none⟩ = some (.slice A t.sub.length c)
theorem BoxC.of {w W : World} {b : Nat} {t : Tm} {A : Option Addr} {c : Nat} {T : TypeId} (h : Ext w W) (hh : w.heap[b]? = some (.cells (cells6 t A c) T (0, 0))) : BoxC W b t A c := by
  obtain ⟨a0, a1, a2, a3, a4, a5, a6⟩ := box6At (h.heap hh)
  exact ⟨a0, a1, a2, a3, a4, a5⟩
theorem TermR.zero' {r : Tm × Int} {x : Int} {w w' : World} {e : Ending} (hr : Hid (r = (noTm, x))) (he : e = .returned (.tuple #[.agg zeroCells, .int .i64 x])) (h : Ext w w') : TermR r.1 r.2 w e w' := by
  rw [hr.out]; exact TermR.zero he h
theorem TermR.of' {r : Tm × Int} {p : Tm} {x : Int} {A : Option Addr} {c lo : Nat} {w w' : World} {e : Ending} (hr : Hid (r = (p, x))) (he : e = .returned (.tuple #[tv p A c, .int .i64 x])) (h : Ext w w') (hl : w.heap.size ≤ lo) (hs : Subs w' lo A p.sub) : TermR r.1 r.2 w e w' := by
  rw [hr.out]; exact ⟨A, c, he, hs.lower hl, h⟩
theorem Subs.setLow {W : World} {lo : Nat} {A : Option Addr} {xs : List Tm} (h : Subs W lo A xs) {p : Addr} (hp : p.block < lo) (v : Value) : Subs (W.setCell p v) lo A xs :=
  h.agree fun b h1 _ => Below.heap_setCell W p v b (by omega)
theorem ext_held {w W : World} {P : Prop} (h : Ext w W ∧ P) : Ext w W := h.1
set_option maxHeartbeats 8000000 in
set_option maxRecDepth 100000 in
theorem subst4_calls (t u : Tm) (nm : ByteArray) (A Au : Option Addr) (c cu : Nat) (w : World) (hM : t.size ≤ 1000000) (hMu : u.size ≤ 1000000) (hs : Subs w 0 A t.sub) (hsu : Subs w 0 Au u.sub) (hok : OkT t) (hoku : OkT u) (hG : Shapes w) (hnm : nm.size ≤ 140737488351232) (h1 : checkE t = 0) (h2 : checkE u = 0) (hany : t.vars.any (fun v => decide (v.1 = nm) && v.2 != u.width) = false) :
    Calls Tryd.prog 8 #[tv t A c, .string nm, tv u Au cu] w (TermR (substE t nm u).1 (substE t nm u).2 w) := by
  obtain ⟨ht1, ht2, ht3, ht4⟩ := checkE_ok h1
  obtain ⟨hu1, hu2, hu3, hu4⟩ := checkE_ok h2
  have h1' : (checkE t != 0) = false := by simp [bne, h1]
  have h2' : (checkE u != 0) = false := by simp [bne, h2]
  have e0 : Ext w (((w.alloc (.cells (cells6 t A c) 25)).alloc (.cells (cells6 u Au cu) 25)).alloc (.cells zeroCells 25)) := ((((Ext.refl w).alloc _).alloc _).alloc _)
  have hkey := nkey_of hnm
  have hhas := has_mapD t.vars nm
  obtain ⟨z, hzz⟩ : ∃ z, z = (t.size : Int) + timesN nm t.vars * (u.size - 1) := ⟨_, rfl⟩
  obtain ⟨p, hp⟩ : ∃ p, p = putT nm u t := ⟨_, rfl⟩
  obtain ⟨x, hx⟩ : ∃ x, x = checkE p := ⟨_, rfl⟩
  obtain ⟨r, hr⟩ : ∃ r, r = substE t nm u := ⟨_, rfl⟩
  have Hs : Hid (r = if 400 < z then (noTm, 4) else if x ≠ 0 then (noTm, x) else (p, 0)) := by
    show _ = _; rw [hr, hx, hp, hzz]; unfold substE; rw [if_neg (by simp [h1]), if_neg (by simp [h2]), if_neg (by simp [hany])]
  rw [← hr]
  clear hr
  have hsz : (p.size : Int) = z := by rw [hp, hzz]; rw [size_put nm u t ht3, Int.natCast_add, Int.natCast_mul, Int.natCast_sub u.size_pos]; rfl
  have hokp : OkT p := hp ▸ okT_put nm u hoku t hok
  have hz1 : (1 : Int) ≤ u.size := by have := u.size_pos; omega
  have hz2 : (u.size : Int) ≤ 1000000 := by omega
  have hgrown : ∀ W, Ext w W → Calls Tryd.prog 31 #[tv t A c, .string nm, .int .i64 u.size] W fun e w' => e = .returned (.int .i64 z) ∧ Ext W w' := fun W h => by
    rw [hzz]; exact grown_calls t A c nm u.size W hM (hs.mono h) hz1 hz2
  have hsize : ∀ W, Ext w W → Calls Tryd.prog 18 #[tv u Au cu] W fun e w' => e = .returned (.int .i64 u.size) ∧ Ext W w' := fun W h => size_calls u Au cu W hMu (hsu.mono h)
  have hrep : ∀ W, Ext w W → Calls Tryd.prog 32 #[tv t A c, .string nm, tv u Au cu] W fun e w' => ∃ A' c', e = .returned (tv p A' c') ∧ Subs w' 0 A' p.sub ∧ Ext W w' := fun W h => by
    refine (replaced_calls u nm W t.size t A Au c cu W (Nat.le_refl _) hM (Ext.refl W) (hs.mono h) (hsu.mono h)).mono ?_
    rintro e w' ⟨A', c', rfl, hq, hb⟩
    exact ⟨A', c', by rw [hp], by rw [hp]; exact hq w' fun b _ _ => rfl, hb⟩
  have hchk : ∀ W A' c', Ext w W → p.size ≤ 400 → Subs W 0 A' p.sub → Calls Tryd.prog 14 #[tv p A' c'] W fun e w' => e = .returned (.int .i64 x) ∧ Ext W w' := fun W A' c' h hl hsp => by
    rw [hx]; exact check_calls p A' c' W (by omega) hsp hokp (hG.mono h)
  have hcase : t.vars.any (fun v => decide (v.1 = nm)) = false ∨ (t.vars.any (fun v => decide (v.1 = nm)) = true ∧ (mapD t.vars).atKey (nkey nm) (.lit (.int .i64 0)) = .lit (.int .i64 u.width)) := by
    cases hh : t.vars.any (fun v => decide (v.1 = nm)) with
    | false => exact .inl rfl
    | true =>
      refine .inr ⟨rfl, ?_⟩
      obtain ⟨⟨m, y⟩, hm, he⟩ := List.any_eq_true.1 hh
      obtain rfl : m = nm := by simpa using he
      have hy : y = u.width := by
        refine Classical.byContradiction fun hne => ?_
        have := (any_conf ht4).2 ⟨y, hm, hne⟩
        rw [hany] at this; cases this
      exact hy ▸ atKey_mapD ht4 hm _
  have hcase' : Hid _ := Lib.hid hcase
  have hnone : Hid (t.vars.any (fun v => decide (v.1 = nm)) = false → (mapD t.vars).atKey (nkey nm) (.lit (.int .i64 0)) = .lit (.int .i64 0)) := fun h => atKey_mapD_none h _
  have hzx : Hid (z = p.size) := hsz.symm
  clear hcase hsz hx hp hzz h1 h2 ht2 hu2 ht3 hu3 hany
  go_enter Tryd.func8, Tryd.ntmps8
  go_wp2_with fail
  refine (check_calls t A c _ hM (hs.mono e0) hok (hG.mono e0)).mono ?_
  rintro e w1 ⟨rfl, hb1⟩
  have B1 := hb1.heap ((((Ext.refl _).alloc _)).heap (heap_new' (b := w.heap.size + 1) (by simp)))
  have B0 := hb1.heap (((((Ext.refl _).alloc _)).alloc _).heap (heap_new' (b := w.heap.size) rfl))
  have B2 := hb1.heap (heap_new' (b := w.heap.size + 2) (by simp))
  obtain ⟨q0, q1, q2, q3, q4, q5, q6⟩ := box6At B1
  have E1 := e0.trans hb1
  clear e0 hb1
  go_wp2_with fail
  refine (check_calls u Au cu _ hMu (hsu.mono E1) hoku (hG.mono E1)).mono ?_
  rintro e w2 ⟨rfl, hb2⟩
  replace B0 := hb2.heap B0
  replace B1 := hb2.heap B1
  replace B2 := hb2.heap B2
  replace E1 := E1.trans hb2
  clear q0 q1 q2 q3 q4 q5 q6 hb2
  obtain ⟨p0, p1, p2, p3, p4, p5, p6⟩ := box6At B0
  go_wp2_with fail
  refine (variables_good t A c _ hM (hs.mono E1) hok ht4).mono ?_
  rintro e w3 ⟨bm, nb, rfl, hown, hbm, hnb, hb3⟩
  replace B0 := hb3.heap B0
  replace B1 := hb3.heap B1
  replace B2 := hb3.heap B2
  replace E1 := E1.trans hb3
  clear p0 p1 p2 p3 p4 p5 p6 hb3
  obtain ⟨q0, q1, q2, q3, q4, q5, q6⟩ := box6At B1
  have hw : Hid (u.width = u.width) := rfl
  obtain hh | ⟨hh, haty⟩ := hcase'.out
  all_goals first
  | (have haty := hnone.out hh
     rw [hh] at hhas
     replace haty := Lib.hid haty
     clear hh hnone hcase'
     go_wp2_with (at_lookup; refine wpList_lookup_own_ok_int _ rfl _ _ 52 rfl 9 3 .i64 (Maps.string_keyed Tryd.underlying9) Tryd.underlying52 Tryd.underlying3 (zeroInt _) bm nb _ rfl hown _ (nkey nm) rfl hkey ?_; intro c0 hat hwf; rw [hhas]; obtain rfl : c0 = 0 := by (have := hat.symm.trans haty.out; simpa using this)))
  | (rw [hh] at hhas
     replace haty := Lib.hid haty
     have hww : (u.width != u.width) = false := by simp
     clear hh hnone hcase'
     go_wp2_with (at_lookup; refine wpList_lookup_own_ok_int _ rfl _ _ 52 rfl 9 3 .i64 (Maps.string_keyed Tryd.underlying9) Tryd.underlying52 Tryd.underlying3 (zeroInt _) bm nb _ rfl hown _ (nkey nm) rfl hkey ?_; intro c0 hat hwf; rw [hhas]; obtain rfl : c0 = u.width := by (have := hat.symm.trans haty.out; simpa using this)))
  all_goals
    go_region_held3 (fun W => Ext w3 W ∧ (W.cell? ⟨w.heap.size, 0, none⟩ = some (.int .u8 t.kind) ∧ W.cell? ⟨w.heap.size, 1, none⟩ = some (.int .i64 t.width) ∧ W.cell? ⟨w.heap.size, 2, none⟩ = some (.int .u64 t.bits) ∧
    W.cell? ⟨w.heap.size, 3, none⟩ = some (.string t.name) ∧ W.cell? ⟨w.heap.size, 4, none⟩ = some (.int .i64 t.low) ∧ W.cell? ⟨w.heap.size, 5, none⟩ = some (.slice A t.sub.length c)) ∧
    (W.cell? ⟨w.heap.size + 1, 0, none⟩ = some (.int .u8 u.kind) ∧ W.cell? ⟨w.heap.size + 1, 1, none⟩ = some (.int .i64 u.width) ∧ W.cell? ⟨w.heap.size + 1, 2, none⟩ = some (.int .u64 u.bits) ∧
    W.cell? ⟨w.heap.size + 1, 3, none⟩ = some (.string u.name) ∧ W.cell? ⟨w.heap.size + 1, 4, none⟩ = some (.int .i64 u.low) ∧ W.cell? ⟨w.heap.size + 1, 5, none⟩ = some (.slice Au u.sub.length cu)))
      (first | exact ⟨(Ext.refl w3).drew, BoxC.of (Ext.refl w3).drew B0, BoxC.of (Ext.refl w3).drew B1⟩ | exact ⟨hE, BoxC.of hE B0, BoxC.of hE B1⟩)
      (first
        | (go_at_call 18; refine (hsize _ (E1.trans (ext_held (by assumption)))).mono ?_; rintro e w4 ⟨rfl, hb4⟩; have hE := (ext_held (w := w3) (by assumption)).trans hb4)
        | (go_at_call 31; refine (hgrown _ (E1.trans (ext_held (by assumption)))).mono ?_; rintro e w4 ⟨rfl, hb4⟩; have hE := (ext_held (w := w3) (by assumption)).trans hb4))
  all_goals
    have hE4 : Ext w3 w4 := ext_held (by assumption)
    replace B0 := hE4.heap B0
    replace B1 := hE4.heap B1
    replace B2 := hE4.heap B2
    replace E1 := E1.trans hE4
    have hlow := E1.sz
    have hlow2 := heap_lt B2
    have hzx' := hzx.out
    clear hE4 q0 q1 q2 q3 q4 q5 q6 hown hbm hat hwf
    obtain ⟨z0, z1, z2, z3, z4, z5, z6, z7⟩ := zboxAt B2
    obtain ⟨q0, q1, q2, q3, q4, q5, q6⟩ := box6At B1
    obtain ⟨p0, p1, p2, p3, p4, p5, p6⟩ := box6At B0
    by_cases g : 400 < z
    · have hr : Hid (r = (noTm, 4)) := by show _ = _; rw [Hs.out, if_pos g]
      go_wp2
      refine bodyPost_ret (v := .tuple #[.agg zeroCells, .int .i64 4]) (by simp [results, Tryd.results8, go_sem, z0, z1, z2, z3, z4, z5]) rfl (TermR.zero' hr rfl ?_)
      repeat (refine Ext.set ?_ (by first | (simp; done) | (simp; omega)) _)
      exact E1
    · have hr := Hs.out
      rw [if_neg g] at hr
      replace g : z ≤ 400 := by omega
      have hp4 : p.size ≤ 400 := by omega
      clear hzx'
      by_cases gx : x = 0
      · have hr' : Hid (r = (p, 0)) := by show _ = _; rw [hr, if_neg (by simp [gx])]
        have gx' : (x != 0) = false := by simp [gx]
        clear hr gx
        go_wp2_with fail
        refine (hrep _ E1).mono ?_
        rintro e w5 ⟨A5, c5, rfl, hs5, hb5⟩
        go_wp2_with fail
        refine (twin_calls p.size p A5 c5 w5 (Nat.le_refl _) (by omega) hs5).mono ?_
        rintro e w6 ⟨A6, c6, rfl, hs6, hb6⟩
        replace B2 := (hb5.trans hb6).heap B2
        replace E1 := (E1.trans hb5).trans hb6
        clear z0 z1 z2 z3 z4 z5 z6 z7 q0 q1 q2 q3 q4 q5 q6 p0 p1 p2 p3 p4 p5 p6 B0 B1
        have hlt := heap_lt B2
        go_wp2_with fail
        have e6 : Ext w6 (w6.alloc (.cells (cells6 p A6 c6) 25)) := (Ext.refl _).alloc _
        refine (hchk _ A6 c6 (E1.trans e6) hp4 ((hs6.mono e6).low)).mono ?_
        rintro e w7 ⟨rfl, hb7⟩
        have B3 := hb7.heap (heap_new' (w := w6) (b := w6.heap.size) (o := .cells (cells6 p A6 c6) 25) rfl)
        replace B2 := (e6.trans hb7).heap B2
        obtain ⟨z0, z1, z2, z3, z4, z5, z6, z7⟩ := zboxAt B2
        obtain ⟨p0, p1, p2, p3, p4, p5, p6⟩ := box6At B3
        have hne : w.heap.size + 2 ≠ w6.heap.size := by omega
        have hb8 : Ext w6 w7 := e6.trans hb7
        have hs7 := hs6.mono hb8
        have hlo : w.heap.size ≤ w5.heap.size ∧ w.heap.size + 2 < w5.heap.size := by have := hb5.sz; omega
        clear e6 hb7 hs6 hs5
        go_wp2
        refine bodyPost_ret (v := .tuple #[tv p A6 c6, .int .i64 0]) (by simp [results, Tryd.results8, go_sem, z0, z1, z2, z3, z4, z5]) rfl (TermR.of' (lo := w5.heap.size) hr' rfl ?_ hlo.1 ?_)
        · repeat (refine Ext.set ?_ (by first | (simp; done) | (simp; omega)) _)
          exact E1.trans hb8
        · repeat (refine Subs.setLow ?_ (by exact hlo.2) _)
          exact hs7
      · have hr' : Hid (r = (noTm, x)) := by show _ = _; rw [hr, if_pos gx]
        have gx' : (x != 0) = true := by simpa [bne] using gx
        clear hr gx
        go_wp2_with fail
        refine (hrep _ E1).mono ?_
        rintro e w5 ⟨A5, c5, rfl, hs5, hb5⟩
        go_wp2_with fail
        refine (twin_calls p.size p A5 c5 w5 (Nat.le_refl _) (by omega) hs5).mono ?_
        rintro e w6 ⟨A6, c6, rfl, hs6, hb6⟩
        replace B2 := (hb5.trans hb6).heap B2
        replace E1 := (E1.trans hb5).trans hb6
        clear z0 z1 z2 z3 z4 z5 z6 z7 q0 q1 q2 q3 q4 q5 q6 p0 p1 p2 p3 p4 p5 p6 B0 B1
        have hlt := heap_lt B2
        go_wp2_with fail
        have e6 : Ext w6 (w6.alloc (.cells (cells6 p A6 c6) 25)) := (Ext.refl _).alloc _
        refine (hchk _ A6 c6 (E1.trans e6) hp4 ((hs6.mono e6).low)).mono ?_
        rintro e w7 ⟨rfl, hb7⟩
        replace B2 := (e6.trans hb7).heap B2
        obtain ⟨z0, z1, z2, z3, z4, z5, z6, z7⟩ := zboxAt B2
        go_wp2
        refine bodyPost_ret (v := .tuple #[.agg zeroCells, .int .i64 x]) (by simp [results, Tryd.results8, go_sem, z0, z1, z2, z3, z4, z5]) rfl (TermR.zero' hr' rfl ?_)
        repeat (refine Ext.set ?_ (by first | (simp; done) | (simp; omega)) _)
        exact (E1.trans e6).trans hb7
theorem subst_calls (t u : Tm) (nm : ByteArray) (A Au : Option Addr) (c cu : Nat) (w : World) (hM : t.size ≤ 1000000) (hMu : u.size ≤ 1000000) (hs : Subs w 0 A t.sub) (hsu : Subs w 0 Au u.sub) (hok : OkT t) (hoku : OkT u) (hG : Shapes w) (hnm : nm.size ≤ 140737488351232) :
    Calls Tryd.prog 8 #[tv t A c, .string nm, tv u Au cu] w (TermR (substE t nm u).1 (substE t nm u).2 w) := by
  by_cases h1 : checkE t = 0
  · by_cases h2 : checkE u = 0
    · cases h3 : t.vars.any (fun v => decide (v.1 = nm) && v.2 != u.width) with
      | true => exact subst3_calls t u nm A Au c cu w hM hMu hs hsu hok hoku hG hnm h1 h2 h3
      | false => exact subst4_calls t u nm A Au c cu w hM hMu hs hsu hok hoku hG hnm h1 h2 h3
    · exact subst2_calls t u nm A Au c cu w hM hMu hs hsu hok hoku hG hnm h1 h2
  · exact subst1_calls t u nm A Au c cu w hM hMu hs hsu hok hoku hG hnm h1
end Go.Proofs.YthaocbfmdcmkkaaDoor.K
