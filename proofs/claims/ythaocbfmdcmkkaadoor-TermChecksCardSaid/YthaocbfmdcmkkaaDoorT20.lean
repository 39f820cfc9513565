/- Walks, the reference: Check. -/
import Derived.Test.YthaocbfmdcmkkaaDoorT18
import Derived.Test.YthaocbfmdcmkkaaDoorT19
import Derived.Test.YthaocbfmdcmkkaaDoorT12
set_option linter.unusedVariables false
namespace Go.Proofs.YthaocbfmdcmkkaaDoor.K
open Go.RowKit

theorem clash_iff (l : List (ByteArray × Int)) : clash l = true ↔ ∃ (i k : Nat) (hi : i < l.length) (hk : k < i), l[k].1 = l[i].1 ∧ l[k].2 ≠ l[i].2 := by
  unfold clash
  simp only [List.any_eq_true, Bool.and_eq_true, decide_eq_true_eq, bne_iff_ne]
  constructor
  · rintro ⟨a, ha, b, hb, h1, h2⟩
    obtain ⟨i, hi, rfl⟩ := List.getElem_of_mem ha
    obtain ⟨k, hk, rfl⟩ := List.getElem_of_mem hb
    rcases Nat.lt_trichotomy i k with h | h | h
    · exact ⟨k, i, hk, h, h1, h2⟩
    · subst h; exact absurd rfl h2
    · exact ⟨i, k, hi, h, h1.symm, fun e => h2 e.symm⟩
  · rintro ⟨i, k, hi, hk, h1, h2⟩
    exact ⟨l[k], List.getElem_mem _, l[i], List.getElem_mem _, h1, h2⟩
theorem bcells_get (l : List (ByteArray × Int)) (k : Nat) (hk : k < l.length) : (bcells l)[k * 3]? = some (.string l[k].1) ∧ (bcells l)[k * 3 + 1]? = some (.int .i64 l[k].2) := by
  induction l generalizing k with
  | nil => simp at hk
  | cons x l ih =>
    cases k with
    | zero => exact ⟨rfl, rfl⟩
    | succ k =>
      have := ih k (by simpa using hk)
      have e : bcells (x :: l) = [.string x.1, .int .i64 x.2, .int .u64 0] ++ bcells l := rfl
      rw [e, List.getElem?_append_right (by simp; omega), List.getElem?_append_right (by simp; omega)]
      simp only [List.length_cons, List.length_nil, List.getElem_cons_succ]
      rw [show (k + 1) * 3 - (0 + 1 + 1 + 1) = k * 3 by omega, show (k + 1) * 3 + 1 - (0 + 1 + 1 + 1) = k * 3 + 1 by omega]
      exact this
/-- The row, as the walk reads it. -/
theorem brow {w : World} {base e : Nat} {v : Value} {l : List (ByteArray × Int)} (h : w.ownsRow base e 3 v l.length (bcells l)) :
    ∃ A c, v = .slice A l.length c ∧ ∀ k (hk : k < l.length), ∃ g, A = some ⟨g, 0, none⟩ ∧ w.cell? ⟨g, k * 3, none⟩ = some (.string l[k].1) ∧ w.cell? ⟨g, k * 3 + 1, none⟩ = some (.int .i64 l[k].2) := by
  rcases h.2 with ⟨rfl, hn⟩ | ⟨g, cap, cur, rfl, _⟩
  · exact ⟨none, 0, by rw [hn], fun k hk => absurd hk (by omega)⟩
  · refine ⟨some ⟨g, 0, none⟩, cap, rfl, fun k hk => ⟨g, rfl, ?_, ?_⟩⟩
    · have := h.cells (g := g) rfl (k * 3) _ (bcells_get l k hk).1
      have ha : (⟨g, 0, none⟩ : Addr).add (k * 3) = ⟨g, k * 3, none⟩ := by unfold Addr.add; split <;> simp_all
      rwa [ha] at this
    · have := h.cells (g := g) rfl (k * 3 + 1) _ (bcells_get l k hk).2
      have ha : (⟨g, 0, none⟩ : Addr).add (k * 3 + 1) = ⟨g, k * 3 + 1, none⟩ := by unfold Addr.add; split <;> simp_all
      rwa [ha] at this

set_option maxHeartbeats 4000000 in
set_option maxRecDepth 100000 in
theorem rcheck_calls (t : Tm) (A : Option Addr) (c : Nat) (w : World) (hM : t.size ≤ 1000000) (hs : Subs w 0 A t.sub) (hok : OkT t) :
    Calls Tryd.prog 15 #[tv t A c] w fun e w' => e = .returned (.int .i64 (checkE t)) ∧ Ext w w' := by
  have e0 : Ext w (w.alloc (.cells (cells6 t A c) 25)) := (Ext.refl w).alloc _
  have hdz := t.depth_le_size
  by_cases h1 : 400 < t.size
  · have hr : Hid (checkE t = 4) := by show _ = _; unfold checkE; rw [if_pos (.inl h1)]
    go_enter Tryd.func15, Tryd.ntmps15
    go_wp2_with (go_at_call 19; refine (rsize_calls t.size t A c _ (Nat.le_refl _) hM (hs.mono e0)).mono ?_; rintro e w2 ⟨rfl, hb2⟩)
    go_ret
    exact ⟨ret_int (by rw [hr.out]), e0.trans hb2⟩
  by_cases h2 : 60 < t.depth
  · have hr : Hid (checkE t = 4) := by show _ = _; unfold checkE; rw [if_pos (.inr h2)]
    go_enter Tryd.func15, Tryd.ntmps15
    go_wp2_with (first
      | (go_at_call 19; refine (rsize_calls t.size t A c _ (Nat.le_refl _) hM (hs.mono e0)).mono ?_; rintro e w2 ⟨rfl, hb2⟩; obtain ⟨q0, q1, q2, q3, q4, q5, q6⟩ := box6 hb2)
      | (go_at_call 21; refine (rdepth_calls t.size t A c _ (Nat.le_refl _) hM (hs.mono (e0.trans hb2))).mono ?_; rintro e w3 ⟨rfl, hb3⟩))
    go_ret
    exact ⟨ret_int (by rw [hr.out]), (e0.trans hb2).trans hb3⟩
  have h1' : (t.size : Int) ≤ 400 := by omega
  have h2' : (t.depth : Int) ≤ 60 := by omega
  have hC : checkE t = if !(t.nodes.all nodeB) then 8 else if clash t.vars then 14 else 0 := by unfold checkE; rw [if_neg (by omega)]
  have hF := fun W (h : Ext w W) => rformed_calls t.size t A c W (Nat.le_refl _) hM (hs.mono h) hok
  have hvl := vars_len t
  cases hf : t.nodes.all nodeB with
  | false =>
    have hr : Hid (checkE t = 8) := by show _ = _; rw [hC, hf]; rfl
    rw [hf] at hF
    clear hC h1 h2
    go_enter Tryd.func15, Tryd.ntmps15
    go_wp2_with (first
      | (go_at_call 19; refine (rsize_calls t.size t A c _ (Nat.le_refl _) hM (hs.mono e0)).mono ?_; rintro e w2 ⟨rfl, hb2⟩; obtain ⟨q0, q1, q2, q3, q4, q5, q6⟩ := box6 hb2)
      | (go_at_call 21; refine (rdepth_calls t.size t A c _ (Nat.le_refl _) hM (hs.mono (e0.trans hb2))).mono ?_; rintro e w3 ⟨rfl, hb3⟩; obtain ⟨p0, p1, p2, p3, p4, p5, p6⟩ := box6 (hb2.trans hb3))
      | (go_at_call 40; refine (hF _ ((e0.trans hb2).trans hb3)).mono ?_; rintro e w4 ⟨rfl, hb4⟩))
    go_ret
    exact ⟨ret_int (by rw [hr.out]), ((e0.trans hb2).trans hb3).trans hb4⟩
  | true =>
    rw [hf] at hF
    have hC' : Hid (checkE t = if clash t.vars then 14 else 0) := by show _ = _; rw [hC, hf]; rfl
    clear hC h1 h2
    go_enter Tryd.func15, Tryd.ntmps15
    go_wp2_with (first
      | (go_at_call 19; refine (rsize_calls t.size t A c _ (Nat.le_refl _) hM (hs.mono e0)).mono ?_; rintro e w2 ⟨rfl, hb2⟩; obtain ⟨q0, q1, q2, q3, q4, q5, q6⟩ := box6 hb2)
      | (go_at_call 21; refine (rdepth_calls t.size t A c _ (Nat.le_refl _) hM (hs.mono (e0.trans hb2))).mono ?_; rintro e w3 ⟨rfl, hb3⟩; obtain ⟨p0, p1, p2, p3, p4, p5, p6⟩ := box6 (hb2.trans hb3))
      | (go_at_call 40; refine (hF _ ((e0.trans hb2).trans hb3)).mono ?_; rintro e w4 ⟨rfl, hb4⟩; obtain ⟨r0, r1, r2, r3, r4, r5, r6⟩ := box6 ((hb2.trans hb3).trans hb4))
      | (go_at_call 33; refine (list_calls t.size t A c _ (Nat.le_refl _) hM (hs.mono (((e0.trans hb2).trans hb3).trans hb4))).mono ?_; rintro e w5 ⟨v, rfl, HO, hb5⟩))
    have E5 := (((e0.trans hb2).trans hb3).trans hb4).trans hb5
    obtain ⟨n, hn⟩ : ∃ l, l = t.vars := ⟨_, rfl⟩
    rw [← hn] at HO hC' hvl
    clear hn q0 q1 q2 q3 q4 q5 q6 p0 p1 p2 p3 p4 p5 p6 r0 r1 r2 r3 r4 r5 r6 hF hf e0 hb2 hb3 hb4 hb5 hs hok
    obtain ⟨Al, cl, rfl, hcell⟩ := brow HO
    have hnl : n.length ≤ 1000000 := by omega
    go_loopw [4, 5] (fun i _ wr => ∃ (k : Nat), k ≤ n.length ∧ i = .int .i64 k ∧ Hid (∀ (a b : Nat) (ha : a < n.length) (hb : b < a), a < k → ¬ (n[b].1 = n[a].1 ∧ n[b].2 ≠ n[a].2)) ∧ Ext w5 wr) (fun i _ _ => n.length - (intOf i).toNat)
    case atStart => exact ⟨0, by omega, rfl, (fun a b ha hb h => absurd h (by omega)), Ext.refl _⟩
    case round =>
      obtain ⟨k, hk, rfl, hok, hb⟩ := hrel
      by_cases hlt : k < n.length
      · obtain ⟨g, rfl, hc1, hc2⟩ := hcell k hlt
        go_wp2
        go_loopw [5] (fun j wr2 => ∃ (m : Nat), m ≤ k ∧ j = .int .i64 m ∧ Hid (∀ (b : Nat) (hb : b < k), b < m → ¬ (n[b].1 = n[k].1 ∧ n[b].2 ≠ n[k].2)) ∧ Ext w5 wr2) (fun j _ => k - (intOf j).toNat)
        case atStart => exact ⟨0, by omega, rfl, (fun b hb h => absurd h (by omega)), hb⟩
        case round =>
          obtain ⟨m, hm, rfl, hok2, hb2⟩ := hrel
          by_cases hlt2 : m < k
          · obtain ⟨g', e, hd1, hd2⟩ := hcell m (by omega)
            cases e
            have d1 := hb2.cell hd1
            have d2 := hb2.cell hd2
            have c1 := hb2.cell hc1
            have c2 := hb2.cell hc2
            by_cases hn : n[m].1 = n[k].1
            · cases hx : (n[m].2 != n[k].2) with
              | true =>
                have hyes : Hid (clash n = true) := (clash_iff n).2 ⟨k, m, hlt, hlt2, hn, by simpa [bne] using hx⟩
                rw [hn] at d1
                clear hn hok hok2 hd1 hd2 hc1 hc2 hcell HO
                go_wp2_with fail
                go_region
                go_wp2
                go_ret
                exact ⟨ret_int (by rw [hC'.out, hyes.out]; rfl), (E5.trans hb2).drew⟩
              | false =>
                have hok3 : Hid (∀ (b : Nat) (hb : b < k), b < m + 1 → ¬ (n[b].1 = n[k].1 ∧ n[b].2 ≠ n[k].2)) := fun b hb h => by
                  rcases Nat.lt_or_ge b m with h' | h'
                  · exact hok2.out b hb h'
                  · obtain rfl : b = m := by omega
                    exact fun e => e.2 (by simpa [bne] using hx)
                rw [hn] at d1
                clear hn hd1 hd2 hc1 hc2 hcell HO
                go_wp2_with fail
                go_region
                go_wp2
                go_roundw
                case rel => exact ⟨m + 1, by omega, by go_num, hok3, hb2.drew⟩
                case measure => simp [intOf]; omega
            · have hok3 : Hid (∀ (b : Nat) (hb : b < k), b < m + 1 → ¬ (n[b].1 = n[k].1 ∧ n[b].2 ≠ n[k].2)) := fun b hb h => by
                rcases Nat.lt_or_ge b m with h' | h'
                · exact hok2.out b hb h'
                · obtain rfl : b = m := by omega
                  exact fun e => hn e.1
              have hn' : (n[m].1.toList == n[k].1.toList) = false := name_ne hn
              clear hn hd1 hd2 hc1 hc2 hcell HO
              go_wp2_with fail
              go_region
              go_wp2
              go_roundw
              case rel => exact ⟨m + 1, by omega, by go_num, hok3, hb2.drew⟩
              case measure => simp [intOf]; omega
          · have hok3 : Hid (∀ (a b : Nat) (ha : a < n.length) (hb : b < a), a < k + 1 → ¬ (n[b].1 = n[a].1 ∧ n[b].2 ≠ n[a].2)) := fun a b ha hb h => by
              rcases Nat.lt_or_ge a k with h' | h'
              · exact hok.out a b ha hb h'
              · obtain rfl : a = k := by omega
                exact hok2.out b hb (by omega)
            go_wp2
            go_roundw
            case rel => exact ⟨k + 1, by omega, by go_num, hok3, hb2⟩
            case measure => simp [intOf]; omega
      · have hno : Hid (clash n = false) := by
          show _ = _
          cases hcl : clash n with
          | false => rfl
          | true =>
            obtain ⟨i, j, hi, hj, h⟩ := (clash_iff n).1 hcl
            exact absurd h (hok.out i j hi hj (by omega))
        go_wp2
        go_ret
        exact ⟨ret_int (by rw [hC'.out, hno.out]; rfl), E5.trans hb⟩
end Go.Proofs.YthaocbfmdcmkkaaDoor.K
