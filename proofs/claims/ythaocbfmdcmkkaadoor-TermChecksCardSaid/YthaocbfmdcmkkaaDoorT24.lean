/- Walks, the reference: Subst. -/
import Derived.Test.YthaocbfmdcmkkaaDoorT20
import Derived.Test.YthaocbfmdcmkkaaDoorT23
import Derived.IntWalk
set_option linter.unusedVariables false
namespace Go.Proofs.YthaocbfmdcmkkaaDoor.K
open Go.RowKit
attribute [local go_sem ↓] Go.wp_at_zero Go.wp_at_succ

theorem timesN_take (nm : ByteArray) (l : List (ByteArray × Int)) (k : Nat) (h : k < l.length) : timesN nm (l.take (k + 1)) = timesN nm (l.take k) + if l[k].1 = nm then 1 else 0 := by
  rw [take_succ' _ _ h, timesN_append]
  by_cases e : l[k].1 = nm <;> simp [timesN, e]
theorem timesN_le (nm : ByteArray) (l : List (ByteArray × Int)) : timesN nm l ≤ l.length := List.length_filter_le _ _
theorem E3 (t u : Tm) (A Au : Option Addr) (c cu : Nat) (w : World) : Ext w (((w.alloc (.cells (cells6 t A c) 25)).alloc (.cells (cells6 u Au cu) 25)).alloc (.cells zeroCells 25)) := (((Ext.refl w).alloc _).alloc _).alloc _
set_option maxHeartbeats 4000000 in
set_option maxRecDepth 100000 in
theorem rsubst1_calls (t u : Tm) (nm : ByteArray) (A Au : Option Addr) (c cu : Nat) (w : World) (hM : t.size ≤ 1000000) (hMu : u.size ≤ 1000000) (hs : Subs w 0 A t.sub) (hsu : Subs w 0 Au u.sub) (hok : OkT t) (hoku : OkT u) (h1 : checkE t ≠ 0) :
    Calls Tryd.prog 9 #[tv t A c, .string nm, tv u Au cu] w (TermR (substE t nm u).1 (substE t nm u).2 w) := by
  have hr : substE t nm u = (noTm, checkE t) := by unfold substE; rw [if_pos h1]
  rw [hr]
  clear hr
  have h1' : (checkE t != 0) = true := by simpa [bne] using h1
  have e0 := E3 t u A Au c cu w
  have hc := fun W (h : Ext w W) => rcheck_calls t A c W hM (hs.mono h) hok
  go_enter Tryd.func9, Tryd.ntmps9
  go_wp2_with fail
  refine (hc _ e0).mono ?_
  rintro e w1 ⟨rfl, hb1⟩
  have B0 := hb1.heap (((((Ext.refl _).alloc _)).alloc _).heap (heap_new' (b := w.heap.size) rfl))
  have B2 := hb1.heap (heap_new' (b := w.heap.size + 2) (by simp))
  have E1 := e0.trans hb1
  obtain ⟨q0, q1, q2, q3, q4, q5, q6⟩ := box6At B0
  go_wp2_with fail
  refine (hc _ E1).mono ?_
  rintro e w2 ⟨rfl, hb2⟩
  obtain ⟨z0, z1, z2, z3, z4, z5, z6, z7⟩ := zboxAt (hb2.heap B2)
  clear q0 q1 q2 q3 q4 q5 q6
  go_wp2
  refine bodyPost_ret (v := .tuple #[.agg zeroCells, .int .i64 (checkE t)]) (by simp [results, Tryd.results9, go_sem, z0, z1, z2, z3, z4, z5]) rfl (TermR.zero rfl ?_)
  repeat (refine Ext.set ?_ (by show w.heap.size ≤ w.heap.size + 1 + 1; omega) _)
  exact E1.trans hb2
set_option maxHeartbeats 4000000 in
set_option maxRecDepth 100000 in
theorem rsubst2_calls (t u : Tm) (nm : ByteArray) (A Au : Option Addr) (c cu : Nat) (w : World) (hM : t.size ≤ 1000000) (hMu : u.size ≤ 1000000) (hs : Subs w 0 A t.sub) (hsu : Subs w 0 Au u.sub) (hok : OkT t) (hoku : OkT u) (h1 : checkE t = 0) (h2 : checkE u ≠ 0) :
    Calls Tryd.prog 9 #[tv t A c, .string nm, tv u Au cu] w (TermR (substE t nm u).1 (substE t nm u).2 w) := by
  have hr : substE t nm u = (noTm, checkE u) := by unfold substE; rw [if_neg (by simp [h1]), if_pos h2]
  rw [hr]
  clear hr
  have h2' : (checkE u != 0) = true := by simpa [bne] using h2
  have e0 := E3 t u A Au c cu w
  have hc : ∀ W, Ext w W → Calls Tryd.prog 15 #[tv t A c] W fun e w' => e = .returned (.int .i64 0) ∧ Ext W w' := fun W h => by rw [← h1]; exact rcheck_calls t A c W hM (hs.mono h) hok
  have hcu := fun W (h : Ext w W) => rcheck_calls u Au cu W hMu (hsu.mono h) hoku
  clear h1
  go_enter Tryd.func9, Tryd.ntmps9
  go_wp2_with fail
  refine (hc _ e0).mono ?_
  rintro e w1 ⟨rfl, hb1⟩
  have B1 := hb1.heap ((((Ext.refl _).alloc _)).heap (heap_new' (b := w.heap.size + 1) (by simp)))
  have B2 := hb1.heap (heap_new' (b := w.heap.size + 2) (by simp))
  have E1 := e0.trans hb1
  obtain ⟨q0, q1, q2, q3, q4, q5, q6⟩ := box6At B1
  go_wp2_with fail
  refine (hcu _ E1).mono ?_
  rintro e w2 ⟨rfl, hb2⟩
  clear q0 q1 q2 q3 q4 q5 q6
  obtain ⟨q0, q1, q2, q3, q4, q5, q6⟩ := box6At (hb2.heap B1)
  go_wp2_with fail
  refine (hcu _ (E1.trans hb2)).mono ?_
  rintro e w3 ⟨rfl, hb3⟩
  obtain ⟨z0, z1, z2, z3, z4, z5, z6, z7⟩ := zboxAt ((hb2.trans hb3).heap B2)
  clear q0 q1 q2 q3 q4 q5 q6
  go_wp2
  refine bodyPost_ret (v := .tuple #[.agg zeroCells, .int .i64 (checkE u)]) (by simp [results, Tryd.results9, go_sem, z0, z1, z2, z3, z4, z5]) rfl (TermR.zero rfl ?_)
  repeat (refine Ext.set ?_ (by show w.heap.size ≤ w.heap.size + 1 + 1; omega) _)
  exact (E1.trans hb2).trans hb3
/-- No conflict and so many finds among the first k. -/
def SubI (nm : ByteArray) (wd : Int) (l : List (ByteArray × Int)) (k : Nat) : Prop := (l.take k).any (fun v => decide (v.1 = nm) && v.2 != wd) = false
theorem SubI.succ {nm : ByteArray} {wd : Int} {l : List (ByteArray × Int)} {k : Nat} (h : SubI nm wd l k) (hk : k < l.length) (hx : (decide (l[k].1 = nm) && l[k].2 != wd) = false) : SubI nm wd l (k + 1) := by
  unfold SubI at *; rw [take_succ' _ _ hk, List.any_append, h]; simpa using hx
theorem SubI.bad {nm : ByteArray} {wd : Int} {l : List (ByteArray × Int)} {k : Nat} (hk : k < l.length) (h1 : l[k].1 = nm) (h2 : (l[k].2 != wd) = true) : l.any (fun v => decide (v.1 = nm) && v.2 != wd) = true :=
  List.any_eq_true.2 ⟨l[k], List.getElem_mem _, by simp [h1, h2]⟩
set_option maxHeartbeats 8000000 in
set_option maxRecDepth 100000 in
theorem rsubst3_calls (t u : Tm) (nm : ByteArray) (A Au : Option Addr) (c cu : Nat) (w : World) (hM : t.size ≤ 1000000) (hMu : u.size ≤ 1000000) (hs : Subs w 0 A t.sub) (hsu : Subs w 0 Au u.sub) (hok : OkT t) (hoku : OkT u) (h1 : checkE t = 0) (h2 : checkE u = 0) :
    Calls Tryd.prog 9 #[tv t A c, .string nm, tv u Au cu] w (TermR (substE t nm u).1 (substE t nm u).2 w) := by
  obtain ⟨ht1, ht2, ht3, ht4⟩ := checkE_ok h1
  obtain ⟨hu1, hu2, hu3, hu4⟩ := checkE_ok h2
  have e0 := E3 t u A Au c cu w
  have hc : ∀ W, Ext w W → Calls Tryd.prog 15 #[tv t A c] W fun e w' => e = .returned (.int .i64 0) ∧ Ext W w' := fun W h => by rw [← h1]; exact rcheck_calls t A c W hM (hs.mono h) hok
  have hcu : ∀ W, Ext w W → Calls Tryd.prog 15 #[tv u Au cu] W fun e w' => e = .returned (.int .i64 0) ∧ Ext W w' := fun W h => by rw [← h2]; exact rcheck_calls u Au cu W hMu (hsu.mono h) hoku
  obtain ⟨z, hzz⟩ : ∃ z, z = (t.size : Int) + timesN nm t.vars * (u.size - 1) := ⟨_, rfl⟩
  obtain ⟨p, hp⟩ : ∃ p, p = putT nm u t := ⟨_, rfl⟩
  obtain ⟨x, hx⟩ : ∃ x, x = checkE p := ⟨_, rfl⟩
  obtain ⟨r, hr⟩ : ∃ r, r = substE t nm u := ⟨_, rfl⟩
  obtain ⟨n, hn⟩ : ∃ n, n = t.vars := ⟨_, rfl⟩
  have Hs : Hid (r = if n.any (fun v => decide (v.1 = nm) && v.2 != u.width) then (noTm, 14) else if 400 < z then (noTm, 4) else if x ≠ 0 then (noTm, x) else (p, 0)) := by
    show _ = _; rw [hr, hx, hp, hzz, hn]; unfold substE; rw [if_neg (by simp [h1]), if_neg (by simp [h2])]
  rw [← hr]
  clear hr
  have hvl := vars_len t
  have hsz : (p.size : Int) = z := by rw [hp, hzz]; rw [size_put nm u t ht3, Int.natCast_add, Int.natCast_mul, Int.natCast_sub u.size_pos]; rfl
  have hokp : OkT p := hp ▸ okT_put nm u hoku t hok
  have hus := u.size_pos
  have hst : ∀ W, Ext w W → Calls Tryd.prog 19 #[tv t A c] W fun e w' => e = .returned (.int .i64 t.size) ∧ Ext W w' := fun W h => rsize_calls t.size t A c W (Nat.le_refl _) hM (hs.mono h)
  have hsu' : ∀ W, Ext w W → Calls Tryd.prog 19 #[tv u Au cu] W fun e w' => e = .returned (.int .i64 u.size) ∧ Ext W w' := fun W h => rsize_calls u.size u Au cu W (Nat.le_refl _) hMu (hsu.mono h)
  have hput : ∀ W, Ext w W → Calls Tryd.prog 34 #[tv t A c, .string nm, tv u Au cu] W fun e w' => ∃ A' c', e = .returned (tv p A' c') ∧ Subs w' W.heap.size A' p.sub ∧ Ext W w' := fun W h => by
    rw [hp]; exact rput_calls u nm t.size t A Au c cu W (Nat.le_refl _) hM hMu (hs.mono h) (hsu.mono h)
  have hchk : ∀ W A' c', p.size ≤ 400 → Subs W 0 A' p.sub → Calls Tryd.prog 15 #[tv p A' c'] W fun e w' => e = .returned (.int .i64 x) ∧ Ext W w' := fun W A' c' hl hsp => by
    rw [hx]; exact rcheck_calls p A' c' W (by omega) hsp hokp
  have hlist : ∀ W, Ext w W → Calls Tryd.prog 33 #[tv t A c] W fun e w' => ∃ v, e = .returned v ∧ w'.ownsRow W.heap.size 59 3 v n.length (bcells n) ∧ Ext W w' := fun W h => by
    rw [hn]; exact list_calls t.size t A c W (Nat.le_refl _) hM (hs.mono h)
  have hzx : Hid (z = p.size) := hsz.symm
  have hzv : Hid (z = (t.size : Int) + timesN nm n * (u.size - 1)) := by show _ = _; rw [hzz, hn]
  have hnl : n.length ≤ 400 := by rw [hn]; omega
  clear hsz hx hp hzz h1 h2 ht2 hu2 ht3 hu3 ht4 hu4 hn hvl
  go_enter Tryd.func9, Tryd.ntmps9
  go_wp2_with fail
  refine (hc _ e0).mono ?_
  rintro e w1 ⟨rfl, hb1⟩
  have B1 := hb1.heap ((((Ext.refl _).alloc _)).heap (heap_new' (b := w.heap.size + 1) (by simp)))
  have B0 := hb1.heap (((((Ext.refl _).alloc _)).alloc _).heap (heap_new' (b := w.heap.size) rfl))
  have B2 := hb1.heap (heap_new' (b := w.heap.size + 2) (by simp))
  obtain ⟨q0, q1, q2, q3, q4, q5, q6⟩ := box6At B1
  have E1 := e0.trans hb1
  clear e0 hb1
  go_wp2_with fail
  refine (hcu _ E1).mono ?_
  rintro e w2 ⟨rfl, hb2⟩
  replace B0 := hb2.heap B0
  replace B1 := hb2.heap B1
  replace B2 := hb2.heap B2
  replace E1 := E1.trans hb2
  clear q0 q1 q2 q3 q4 q5 q6 hb2
  obtain ⟨p0, p1, p2, p3, p4, p5, p6⟩ := box6At B0
  go_wp2_with fail
  refine (hlist _ E1).mono ?_
  rintro e w3 ⟨v, rfl, HO, hb3⟩
  replace B0 := hb3.heap B0
  replace B1 := hb3.heap B1
  replace B2 := hb3.heap B2
  replace E1 := E1.trans hb3
  clear p0 p1 p2 p3 p4 p5 p6 hb3 hc hcu hlist
  obtain ⟨Al, cl, rfl, hcell⟩ := brow HO
  go_wp2
  go_loopw [9, 10] (fun m i wr => ∃ (k : Nat), k ≤ n.length ∧ i = .int .i64 k ∧ m = .int .i64 (timesN nm (n.take k)) ∧ Hid (SubI nm u.width n k) ∧ Ext w3 wr) (fun _ i _ => n.length - (intOf i).toNat)
  case atStart => exact ⟨0, by omega, rfl, rfl, rfl, Ext.refl _⟩
  case round =>
    obtain ⟨k, hk, rfl, rfl, hI, hb⟩ := hrel
    have htl := timesN_le nm (n.take k)
    have htk : (n.take k).length ≤ 400 := by simp; omega
    by_cases hlt : k < n.length
    · obtain ⟨g, rfl, hc1, hc2⟩ := hcell k hlt
      have d1 := hb.cell hc1
      have d2 := hb.cell hc2
      have hnx := Lib.hid (timesN_take nm n k hlt)
      obtain ⟨q0, q1, q2, q3, q4, q5, q6⟩ := box6At (hb.heap B1)
      have hk0 : (0 : Int) ≤ (k : Int) := by omega
      have hk1 : (k : Int) < n.length := by omega
      obtain ⟨m, hm⟩ : ∃ m, m = timesN nm (n.take k) := ⟨_, rfl⟩
      rw [← hm] at hnx htl ⊢
      clear hm hcell HO hc1 hc2
      have hm4 : (m : Int) ≤ 400 := by omega
      by_cases hnm : n[k].1 = nm
      · have hn1 : (n[k].1.toList == nm.toList) = true := by simp [hnm]
        cases hw : (n[k].2 != u.width) with
        | true =>
          have hbad : Hid (r = (noTm, 14)) := by show _ = _; rw [Hs.out, if_pos (SubI.bad hlt hnm hw)]
          obtain ⟨z0, z1, z2, z3, z4, z5, z6, z7⟩ := zboxAt (hb.heap B2)
          clear hnm hnx
          go_wp2_with fail
          go_quiet (fail)
          all_goals
            go_wp2
            refine bodyPost_ret (v := .tuple #[.agg zeroCells, .int .i64 14]) (by simp [results, Tryd.results9, go_sem, z0, z1, z2, z3, z4, z5]) rfl (TermR.zero' hbad rfl ?_)
            repeat (refine Ext.set ?_ (by show w.heap.size ≤ w.heap.size + 1 + 1; omega) _)
            exact (E1.trans hb).drewN _
        | false =>
          have hnx' : Hid (timesN nm (n.take (k + 1)) = m + 1) := by show _ = _; rw [hnx.out, if_pos hnm]
          have hI' := Lib.hid (hI.out.succ hlt (by simp [hw]))
          clear hnm hnx
          go_wp2_with fail
          go_quiet (fail)
          all_goals
            go_wp2
            go_roundw
            case rel => exact ⟨k + 1, by omega, by go_num, by rw [hnx'.out]; go_num, hI', hb.drewN _⟩
            case measure => simp [intOf]; omega
      · have hn1 : (n[k].1.toList == nm.toList) = false := name_ne hnm
        have hnx' : Hid (timesN nm (n.take (k + 1)) = m) := by show _ = _; rw [hnx.out, if_neg hnm]; rfl
        have hI' := Lib.hid (hI.out.succ hlt (by simp [hnm]))
        clear hnm hnx
        go_wp2_with fail
        go_quiet (fail)
        all_goals
          go_wp2
          go_roundw
          case rel => exact ⟨k + 1, by omega, by go_num, by rw [hnx'.out], hI', hb.drewN _⟩
          case measure => simp [intOf]; omega
    · have hkn : k = n.length := by omega
      have hI' : SubI nm u.width n n.length := hkn ▸ hI.out
      have hall : n.take k = n := List.take_of_length_le (by omega)
      have hno : n.any (fun v => decide (v.1 = nm) && v.2 != u.width) = false := by unfold SubI at hI'; rwa [List.take_length] at hI'
      have Hs' : Hid (r = if 400 < z then (noTm, 4) else if x ≠ 0 then (noTm, x) else (p, 0)) := by show _ = _; rw [Hs.out, hno]; rfl
      rw [hall]
      replace B0 := hb.heap B0
      replace B1 := hb.heap B1
      replace B2 := hb.heap B2
      replace E1 := E1.trans hb
      obtain ⟨m, hm⟩ : ∃ m, m = timesN nm n := ⟨_, rfl⟩
      have hml := timesN_le nm n
      rw [← hm] at hzv hml ⊢
      have hmul0 : (0 : Int) ≤ (m : Int) * (u.size - 1) := Int.mul_nonneg (by omega) (by omega)
      have hmul1 : (m : Int) * (u.size - 1) ≤ 1000000 := by
        have h1 : (m : Int) * (u.size - 1) ≤ 400 * 400 := Int.mul_le_mul (by omega) (by omega) (by omega) (by omega)
        omega
      have hu1 : (1 : Int) ≤ u.size := by omega
      have hz4 : Hid ((t.size : Int) + m * (u.size - 1) = z) := hzv.out.symm
      have hzx' := hzx.out
      clear hm hall hkn hI' hno hI hcell HO htl htk hzv Hs
      obtain ⟨q0, q1, q2, q3, q4, q5, q6⟩ := box6At B1
      obtain ⟨p0, p1, p2, p3, p4, p5, p6⟩ := box6At B0
      have hS : ∀ W, Ext wr W → (Ext wr W ∧ (W.cell? ⟨w.heap.size, 0, none⟩ = some (.int .u8 t.kind) ∧ W.cell? ⟨w.heap.size, 1, none⟩ = some (.int .i64 t.width) ∧ W.cell? ⟨w.heap.size, 2, none⟩ = some (.int .u64 t.bits) ∧
          W.cell? ⟨w.heap.size, 3, none⟩ = some (.string t.name) ∧ W.cell? ⟨w.heap.size, 4, none⟩ = some (.int .i64 t.low) ∧ W.cell? ⟨w.heap.size, 5, none⟩ = some (.slice A t.sub.length c)) ∧
          (W.cell? ⟨w.heap.size + 1, 0, none⟩ = some (.int .u8 u.kind) ∧ W.cell? ⟨w.heap.size + 1, 1, none⟩ = some (.int .i64 u.width) ∧ W.cell? ⟨w.heap.size + 1, 2, none⟩ = some (.int .u64 u.bits) ∧
          W.cell? ⟨w.heap.size + 1, 3, none⟩ = some (.string u.name) ∧ W.cell? ⟨w.heap.size + 1, 4, none⟩ = some (.int .i64 u.low) ∧ W.cell? ⟨w.heap.size + 1, 5, none⟩ = some (.slice Au u.sub.length cu))) :=
        fun W h => ⟨h, ⟨h.cell p0, h.cell p1, h.cell p2, h.cell p3, h.cell p4, h.cell p5⟩, ⟨h.cell q0, h.cell q1, h.cell q2, h.cell q3, h.cell q4, h.cell q5⟩⟩
      replace hS := Lib.hid hS
      have hd : Ext wr wr.drew := (Ext.refl wr).drew
      clear hzx'
      have hw1 : IntKind.i64.wrap ((u.size : Int) - 1) = u.size - 1 := IntWalk.i64_in _ (by omega)
      have hw2 : IntKind.i64.wrap ((m : Int) * (u.size - 1)) = m * (u.size - 1) := IntWalk.i64_in _ (by omega)
      have hw3 : IntKind.i64.wrap ((t.size : Int) + m * (u.size - 1)) = t.size + m * (u.size - 1) := IntWalk.i64_in _ (by omega)
      go_wp2_with fail
      go_region_held3 (fun W => Ext wr W ∧ (W.cell? ⟨w.heap.size, 0, none⟩ = some (.int .u8 t.kind) ∧ W.cell? ⟨w.heap.size, 1, none⟩ = some (.int .i64 t.width) ∧ W.cell? ⟨w.heap.size, 2, none⟩ = some (.int .u64 t.bits) ∧
          W.cell? ⟨w.heap.size, 3, none⟩ = some (.string t.name) ∧ W.cell? ⟨w.heap.size, 4, none⟩ = some (.int .i64 t.low) ∧ W.cell? ⟨w.heap.size, 5, none⟩ = some (.slice A t.sub.length c)) ∧
          (W.cell? ⟨w.heap.size + 1, 0, none⟩ = some (.int .u8 u.kind) ∧ W.cell? ⟨w.heap.size + 1, 1, none⟩ = some (.int .i64 u.width) ∧ W.cell? ⟨w.heap.size + 1, 2, none⟩ = some (.int .u64 u.bits) ∧
          W.cell? ⟨w.heap.size + 1, 3, none⟩ = some (.string u.name) ∧ W.cell? ⟨w.heap.size + 1, 4, none⟩ = some (.int .i64 u.low) ∧ W.cell? ⟨w.heap.size + 1, 5, none⟩ = some (.slice Au u.sub.length cu)))
        (with_reducible (first | exact hS.out _ hd | exact hS.out _ hE))
        (first
          | (go_at_call 19; with_reducible refine (hst _ (E1.trans (And.left (by assumption)))).mono ?_; rintro e w4 ⟨rfl, hb4⟩; have hE := (And.left (a := Ext wr _) (by assumption)).trans hb4)
          | (go_at_call 19; with_reducible refine (hsu' _ (E1.trans (And.left (by assumption)))).mono ?_; rintro e w4 ⟨rfl, hb4⟩; have hE := (And.left (a := Ext wr _) (by assumption)).trans hb4))
      clear hw1 hw2 hw3
      have hE4 := And.left (a := Ext wr w4) (by assumption)
      replace B0 := hE4.heap B0
      replace B1 := hE4.heap B1
      replace B2 := hE4.heap B2
      replace E1 := E1.trans hE4
      have hlow := E1.sz
      have hlow2 := heap_lt B2
      clear hE4 hE hS hd q0 q1 q2 q3 q4 q5 q6 p0 p1 p2 p3 p4 p5 p6 hst hsu'
      obtain ⟨z0, z1, z2, z3, z4, z5, z6, z7⟩ := zboxAt B2
      obtain ⟨q0, q1, q2, q3, q4, q5, q6⟩ := box6At B1
      obtain ⟨p0, p1, p2, p3, p4, p5, p6⟩ := box6At B0
      have hzz := hz4.out
      have hzx' := hzx.out
      by_cases g : 400 < (t.size : Int) + m * (u.size - 1)
      · have hr : Hid (r = (noTm, 4)) := by show _ = _; rw [Hs'.out, if_pos (by omega)]
        clear hzz hzx'
        go_wp2
        refine bodyPost_ret (v := .tuple #[.agg zeroCells, .int .i64 4]) (by simp [results, Tryd.results9, go_sem, z0, z1, z2, z3, z4, z5]) rfl (TermR.zero' hr rfl ?_)
        repeat (refine Ext.set ?_ (by show w.heap.size ≤ w.heap.size + 1 + 1; omega) _)
        exact E1
      · have hr := Hs'.out
        rw [if_neg (by omega)] at hr
        have hp4 : p.size ≤ 400 := by omega
        clear hzz hzx'
        by_cases gx : x = 0
        · have hr' : Hid (r = (p, 0)) := by show _ = _; rw [hr, if_neg (by simp [gx])]
          have gx' : (x != 0) = false := by simp [gx]
          clear hr gx Hs'
          go_wp2_with fail
          refine (hput _ E1).mono ?_
          rintro e w5 ⟨A5, c5, rfl, hs5, hb5⟩
          replace B2 := hb5.heap B2
          replace E1 := E1.trans hb5
          have hz5 := hb5.sz
          clear z0 z1 z2 z3 z4 z5 z6 z7 q0 q1 q2 q3 q4 q5 q6 p0 p1 p2 p3 p4 p5 p6 B0 B1
          go_wp2_with fail
          have e6 : Ext w5 (w5.alloc (.cells (cells6 p A5 c5) 25)) := (Ext.refl _).alloc _
          refine (hchk _ A5 c5 hp4 ((hs5.mono e6).low)).mono ?_
          rintro e w7 ⟨rfl, hb7⟩
          have B3 := hb7.heap (heap_new' (w := w5) (b := w5.heap.size) (o := .cells (cells6 p A5 c5) 25) rfl)
          replace B2 := (e6.trans hb7).heap B2
          obtain ⟨z0, z1, z2, z3, z4, z5, z6, z7⟩ := zboxAt B2
          obtain ⟨p0, p1, p2, p3, p4, p5, p6⟩ := box6At B3
          have hne : w.heap.size + 2 ≠ w5.heap.size := by omega
          have hb8 : Ext w5 w7 := e6.trans hb7
          have hs7 := hs5.mono hb8
          clear e6 hb7 hs5
          go_wp2
          refine bodyPost_ret (v := .tuple #[tv p A5 c5, .int .i64 0]) (by simp [results, Tryd.results9, go_sem, z0, z1, z2, z3, z4, z5]) rfl (TermR.of' (lo := w4.heap.size) hr' rfl ?_ hlow ?_)
          · repeat (refine Ext.set ?_ (by show w.heap.size ≤ w.heap.size + 1 + 1; omega) _)
            exact E1.trans hb8
          · repeat (refine Subs.setLow ?_ (by show w.heap.size + 1 + 1 < w4.heap.size; omega) _)
            exact hs7
        · have hr' : Hid (r = (noTm, x)) := by show _ = _; rw [hr, if_pos gx]
          have gx' : (x != 0) = true := by simpa [bne] using gx
          clear hr gx Hs'
          go_wp2_with fail
          refine (hput _ E1).mono ?_
          rintro e w5 ⟨A5, c5, rfl, hs5, hb5⟩
          replace B2 := hb5.heap B2
          replace E1 := E1.trans hb5
          have hz5 := hb5.sz
          clear z0 z1 z2 z3 z4 z5 z6 z7 q0 q1 q2 q3 q4 q5 q6 p0 p1 p2 p3 p4 p5 p6 B0 B1
          go_wp2_with fail
          have e6 : Ext w5 (w5.alloc (.cells (cells6 p A5 c5) 25)) := (Ext.refl _).alloc _
          refine (hchk _ A5 c5 hp4 ((hs5.mono e6).low)).mono ?_
          rintro e w7 ⟨rfl, hb7⟩
          have B3 := hb7.heap (heap_new' (w := w5) (b := w5.heap.size) (o := .cells (cells6 p A5 c5) 25) rfl)
          replace B2 := (e6.trans hb7).heap B2
          have hs7 := hs5.mono (e6.trans hb7)
          replace E1 := (E1.trans e6).trans hb7
          obtain ⟨p0, p1, p2, p3, p4, p5, p6⟩ := box6At B3
          clear e6 hb7 hs5
          go_wp2_with fail
          refine (hchk _ A5 c5 hp4 hs7.low).mono ?_
          rintro e w8 ⟨rfl, hb8⟩
          replace B2 := hb8.heap B2
          obtain ⟨z0, z1, z2, z3, z4, z5, z6, z7⟩ := zboxAt B2
          clear p0 p1 p2 p3 p4 p5 p6
          go_wp2
          refine bodyPost_ret (v := .tuple #[.agg zeroCells, .int .i64 x]) (by simp [results, Tryd.results9, go_sem, z0, z1, z2, z3, z4, z5]) rfl (TermR.zero' hr' rfl ?_)
          repeat (refine Ext.set ?_ (by show w.heap.size ≤ w.heap.size + 1 + 1; omega) _)
          exact E1.trans hb8
theorem rsubst_calls (t u : Tm) (nm : ByteArray) (A Au : Option Addr) (c cu : Nat) (w : World) (hM : t.size ≤ 1000000) (hMu : u.size ≤ 1000000) (hs : Subs w 0 A t.sub) (hsu : Subs w 0 Au u.sub) (hok : OkT t) (hoku : OkT u) :
    Calls Tryd.prog 9 #[tv t A c, .string nm, tv u Au cu] w (TermR (substE t nm u).1 (substE t nm u).2 w) := by
  by_cases h1 : checkE t = 0
  · by_cases h2 : checkE u = 0
    · exact rsubst3_calls t u nm A Au c cu w hM hMu hs hsu hok hoku h1 h2
    · exact rsubst2_calls t u nm A Au c cu w hM hMu hs hsu hok hoku h1 h2
  · exact rsubst1_calls t u nm A Au c cu w hM hMu hs hsu hok hoku h1
end Go.Proofs.YthaocbfmdcmkkaaDoor.K
