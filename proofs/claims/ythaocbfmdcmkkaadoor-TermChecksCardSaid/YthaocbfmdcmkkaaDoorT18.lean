/- Walks, the reference: Formed. -/
import Derived.Test.YthaocbfmdcmkkaaDoorT17
import Derived.Deep.Light
set_option linter.unusedVariables false set_option linter.unusedSimpArgs false
namespace Go.Proofs.YthaocbfmdcmkkaaDoor.K
open Go.RowKit

theorem formed_wide {t : Tm} {k : Nat} (hk : k < t.sub.length) (h : (nodess t.sub).all nodeB = true) : 1 ≤ t.sub[k].width ∧ t.sub[k].width ≤ 64 := by
  have h1 := List.all_eq_true.1 h t.sub[k] (nodess_mem hk (by rw [t.sub[k].nodes_eq]; simp))
  unfold nodeB at h1
  simp only [Bool.and_eq_true, wideB, decide_eq_true_eq] at h1
  exact h1.1
theorem rwide_eq {x : Int} {b : Bool} (h : wideB x = b) (w : World) : Calls Tryd.prog 58 #[.int .i64 x] w fun e w' => e = .returned (.bool b) ∧ w' = w := h ▸ rwide_calls x w
theorem u64_wf {b : Int} (h : (Lit.int .u64 b).wf = true) : 0 ≤ b ∧ b < 18446744073709551616 := by
  simp only [Lit.wf, Bool.and_eq_true, decide_eq_true_eq] at h
  have e1 : IntKind.u64.min = 0 := rfl
  have e2 : IntKind.u64.max = 18446744073709551615 := by decide
  omega
theorem u64_ge {b : Int} (h : (Lit.int .u64 b).wf = true) : 0 ≤ b := (u64_wf h).1
theorem u64_lt {b : Int} (h : (Lit.int .u64 b).wf = true) : b < 18446744073709551616 := (u64_wf h).2
theorem nodes_all_eq (t : Tm) (h : (nodess t.sub).all nodeB = true) : t.nodes.all nodeB = nodeB t := by rw [t.nodes_eq, List.all_cons, h, Bool.and_true]


theorem nB1 {t : Tm} (hw : wideB t.width = true) (hk : t.kind = 1) : nodeB t = (t.sub.isEmpty && t.low == 0 && (t.name.toList.isEmpty && okB t.width t.bits)) := by
  unfold nodeB; rw [hw, hk, if_pos (by decide)]; simp
theorem nB2 {t : Tm} (hw : wideB t.width = true) (hk : t.kind = 2) : nodeB t = (t.sub.isEmpty && t.low == 0 && (t.bits == 0 && varB t.name)) := by
  unfold nodeB; rw [hw, hk, if_pos (by decide)]; simp
theorem nB0 {t : Tm} (hk : t.kind < 1 ∨ 24 < t.kind) : nodeB t = false := by
  unfold nodeB
  rw [if_pos (by unfold partsI; rw [if_neg (by omega), if_neg (by omega), if_neg (by omega)]), show (t.kind == 1) = false from beq_false_of_ne (by omega), show (t.kind == 2) = false from beq_false_of_ne (by omega)]
  simp
theorem nB3 {t : Tm} (hk : 3 ≤ t.kind ∧ t.kind ≤ 24) (hw : wideB t.width = true) : nodeB t = (t.bits == 0 && t.name.toList.isEmpty && (t.low == 0 || t.kind == 21) && ((t.sub.length : Int) == partsI t.kind) && wdB t) := by
  unfold nodeB
  rw [if_neg (by unfold partsI; omega), hw]; rfl
theorem width_at {W : World} {lo b o : Nat} {xs : List Tm} (h : Subs W lo (some ⟨b, o, none⟩) xs) (i : Nat) (hi : i < xs.length) : W.cell? ⟨b, o + i * 6 + 1, none⟩ = some (.int .i64 xs[i].width) := by
  obtain ⟨b', o', A', c', e, he⟩ := h.at_ i hi
  cases e
  exact he.c1
theorem wd1a {t : Tm} (h : t.sub.length = 1) (hk : howI t.kind = 1) : wdB t = (t.sub[0].width == t.width) := by
  obtain ⟨k, w, b, m, l, sub⟩ := t
  match sub, h with | [x], _ => simp only [wdB, hk, wdH]; simp
theorem wd1b {t : Tm} (h : t.sub.length = 2) (hk : howI t.kind = 1) : wdB t = (t.sub[0].width == t.width && t.sub[1].width == t.width) := by
  obtain ⟨k, w, b, m, l, sub⟩ := t
  match sub, h with | [x, y], _ => simp only [wdB, hk, wdH]; simp
theorem wd2 {t : Tm} (h : t.sub.length = 2) (hk : howI t.kind = 2) : wdB t = (t.width == 1 && t.sub[1].width == t.sub[0].width) := by
  obtain ⟨k, w, b, m, l, sub⟩ := t
  match sub, h with | [x, y], _ => simp only [wdB, hk, wdH]; simp
theorem wd3 {t : Tm} (h : t.sub.length = 3) (hk : howI t.kind = 3) : wdB t = (t.sub[0].width == 1 && t.sub[1].width == t.width && t.sub[2].width == t.width) := by
  obtain ⟨k, w, b, m, l, sub⟩ := t
  match sub, h with | [x, y, z], _ => simp only [wdB, hk, wdH]; simp
theorem wd4 {t : Tm} (h : t.sub.length = 2) (hk : howI t.kind = 4) : wdB t = (wideB t.sub[0].width && wideB t.sub[1].width && t.sub[0].width + t.sub[1].width == t.width) := by
  obtain ⟨k, w, b, m, l, sub⟩ := t
  match sub, h with | [x, y], _ => simp only [wdB, hk, wdH]; simp
theorem wd5 {t : Tm} (h : t.sub.length = 1) (hk : howI t.kind = 5) : wdB t = (decide (0 ≤ t.low) && wideB t.sub[0].width && decide (t.width ≤ t.sub[0].width) && decide (t.low ≤ t.sub[0].width - t.width)) := by
  obtain ⟨k, w, b, m, l, sub⟩ := t
  match sub, h with | [x], _ => simp only [wdB, hk, wdH]; simp
theorem wd6 {t : Tm} (h : t.sub.length = 1) (hk : howI t.kind = 6) : wdB t = decide (t.sub[0].width ≤ t.width) := by
  obtain ⟨k, w, b, m, l, sub⟩ := t
  match sub, h with | [x], _ => simp only [wdB, hk, wdH]; simp
theorem wd7 {t : Tm} (hk : howI t.kind = 7) : wdB t = loadsB t.width := by
  obtain ⟨k, w, b, m, l, sub⟩ := t
  simp only [wdB, hk, wdH]
set_option maxHeartbeats 40000000 in
set_option maxRecDepth 100000 in
theorem rformed_calls (N : Nat) : ∀ (t : Tm) (A : Option Addr) (c : Nat) (w : World), t.size ≤ N → N ≤ 1000000 → Subs w 0 A t.sub → OkT t →
    Calls Tryd.prog 40 #[tv t A c] w fun e w' => e = .returned (.bool (t.nodes.all nodeB)) ∧ Ext w w' := by
  induction N with
  | zero => intro t A c w h; have := t.size_pos; omega
  | succ N ih =>
  intro t A c w hd hN hs hok
  have hz := t.size_eq
  have hl := length_le_sizes t.sub
  go_enter Tryd.func40, Tryd.ntmps40
  go_wp2
  go_loopw [3] (fun i wr => ∃ (k : Nat), k ≤ t.sub.length ∧ i = .int .i64 k ∧ Hid ((nodess (t.sub.take k)).all nodeB = true) ∧ Ext w wr ∧ wr.heap[w.heap.size]? = some (.cells (cells6 t A c) 25 (0, 0))) (fun i _ => t.sub.length - (intOf i).toNat)
  case atStart => exact ⟨0, by omega, rfl, rfl, (Ext.refl w).alloc _, heap_new w _⟩
  case round =>
    obtain ⟨k, hk, rfl, hn, hb, hB⟩ := hrel
    obtain ⟨q0, q1, q2, q3, q4, q5, q6⟩ := box6At hB
    by_cases hlt : k < t.sub.length
    · obtain ⟨b, o, A', c', rfl, he⟩ := (hs.mono hb).at_ k hlt
      obtain ⟨h0, h1, h2, h3, h4, h5, hsub, _, _⟩ := he
      have hzk := sizes_get t.sub k hlt
      cases hnk : t.sub[k].nodes.all nodeB with
      | true =>
        go_wp2_with (go_at_call 40; refine (ih t.sub[k] A' c' _ (by omega) (by omega) hsub (hok.part hlt)).mono ?_; rintro e w2 ⟨rfl, hb2⟩)
        go_roundw
        case rel => exact ⟨k + 1, by omega, by go_num, by show _ = _; rw [nodess_take _ _ hlt, List.all_append, hn.out, hnk]; rfl, hb.trans hb2, hb2.heap hB⟩
        case measure => simp [intOf]; omega
      | false =>
        have hr : Hid (t.nodes.all nodeB = false) := by
          show _ = _
          rw [t.nodes_eq, List.all_eq_false]
          obtain ⟨x, hx, hx2⟩ := List.all_eq_false.1 hnk
          exact ⟨x, List.mem_cons_of_mem _ ((nodess_split t.sub k hlt).subset (List.mem_append_right _ hx)), hx2⟩
        go_wp2_with (go_at_call 40; refine (ih t.sub[k] A' c' _ (by omega) (by omega) hsub (hok.part hlt)).mono ?_; rintro e w2 ⟨rfl, hb2⟩)
        go_ret
        exact ⟨ret_bool (by rw [hr.out]), hb.trans hb2⟩
    · have htk : t.sub.take k = t.sub := List.take_of_length_le (by omega)
      rw [htk] at hn
      have hall := hn.out
      have hR : Hid (t.nodes.all nodeB = nodeB t) := nodes_all_eq t hall
      have hwf := hok.here
      have hxl : t.sub.length ≤ 1000000 := by omega
      have hnl : t.name.size ≤ 140737488355328 := by have := hwf.n; omega
      have hkz : k = t.sub.length := by omega
      clear hn htk ih hd hN hz hl hok hk hlt
      subst hkz
      go_wp2_with fail
      go_region
      cases hw : wideB t.width with
      | false =>
        have hr : Hid (nodeB t = false) := by show _ = _; unfold nodeB; rw [hw]; rfl
        go_wp2_with (first | (go_at_call 58; refine (rwide_eq hw _).mono ?_; rintro e w2 ⟨rfl, rfl⟩))
        go_ret
        exact ⟨ret_bool (by rw [hR.out, hr.out]), (hb.drew : Ext w _)⟩
      | true =>
        have hw1 : 1 ≤ t.width ∧ t.width ≤ 64 := by simpa [wideB] using hw
        by_cases hk1 : t.kind = 1
        · have hN := nB1 hw hk1
          by_cases hL : t.sub = []
          · have hL' : ((t.sub.length : Int) == 0) = true := by simp [hL]
            rw [hL] at hN
            cases hn : t.name.toList.isEmpty with
            | false =>
              have hr : Hid (nodeB t = false) := by show _ = _; rw [hN, hn]; simp
              clear hN
              go_wp2_with (first | (go_at_call 58; refine (rwide_eq hw _).mono ?_; rintro e w2 ⟨rfl, rfl⟩))
              go_ret
              exact ⟨ret_bool (by rw [hR.out, hr.out]), (hb.drew : Ext w _)⟩
            | true =>
              have hn' : t.name.toList = [] := by simpa using hn
              cases hlo : (t.low == 0) with
              | false =>
                have hr : Hid (nodeB t = false) := by show _ = _; rw [hN, hlo]; simp
                clear hN
                go_wp2_with (first | (go_at_call 58; refine (rwide_eq hw _).mono ?_; rintro e w2 ⟨rfl, rfl⟩))
                go_ret
                exact ⟨ret_bool (by rw [hR.out, hr.out]), (hb.drew : Ext w _)⟩
              | true =>
                have hlo' : t.low = 0 := by simpa using hlo
                have hbz : 0 ≤ t.bits := u64_ge hwf.b
                have hbw : t.bits < 18446744073709551616 := u64_lt hwf.b
                have hr : Hid (nodeB t = okB t.width t.bits) := by show _ = _; rw [hN, hn, hlo]; simp
                clear hN
                go_wp2_with (first | (go_at_call 58; refine (rwide_eq hw _).mono ?_; rintro e w2 ⟨rfl, rfl⟩) | (go_at_call 59; refine (rok_calls _ _ hbz hbw _).mono ?_; rintro e w2 ⟨rfl, rfl⟩))
                go_ret
                exact ⟨ret_bool (by rw [hR.out, hr.out]), (hb.drew : Ext w _)⟩
          · have hL' : ((t.sub.length : Int) == 0) = false := beq_false_of_ne (by have := List.length_pos_iff.2 hL; omega)
            have hLe : t.sub.isEmpty = false := by simpa using hL
            have hr : Hid (nodeB t = false) := by show _ = _; rw [hN, hLe]; rfl
            clear hN
            go_wp2_with (first | (go_at_call 58; refine (rwide_eq hw _).mono ?_; rintro e w2 ⟨rfl, rfl⟩))
            go_ret
            exact ⟨ret_bool (by rw [hR.out, hr.out]), (hb.drew : Ext w _)⟩
        by_cases hk2 : t.kind = 2
        · have hN := nB2 hw hk2
          by_cases hL : t.sub = []
          · have hL' : ((t.sub.length : Int) == 0) = true := by simp [hL]
            rw [hL] at hN
            cases hbt : (t.bits == 0) with
            | false =>
              have hr : Hid (nodeB t = false) := by show _ = _; rw [hN, hbt]; simp
              clear hN
              go_wp2_with (first | (go_at_call 58; refine (rwide_eq hw _).mono ?_; rintro e w2 ⟨rfl, rfl⟩))
              go_ret
              exact ⟨ret_bool (by rw [hR.out, hr.out]), (hb.drew : Ext w _)⟩
            | true =>
              cases hlo : (t.low == 0) with
              | false =>
                have hr : Hid (nodeB t = false) := by show _ = _; rw [hN, hlo]; simp
                clear hN
                go_wp2_with (first | (go_at_call 58; refine (rwide_eq hw _).mono ?_; rintro e w2 ⟨rfl, rfl⟩))
                go_ret
                exact ⟨ret_bool (by rw [hR.out, hr.out]), (hb.drew : Ext w _)⟩
              | true =>
                have hr : Hid (nodeB t = varB t.name) := by show _ = _; rw [hN, hbt, hlo]; simp
                clear hN
                go_wp2_with (first | (go_at_call 58; refine (rwide_eq hw _).mono ?_; rintro e w2 ⟨rfl, rfl⟩) | (go_at_call 60; refine (rvariable_calls _ _ hnl).mono ?_; rintro e w2 ⟨rfl, rfl⟩))
                go_ret
                exact ⟨ret_bool (by rw [hR.out, hr.out]), (hb.drew : Ext w _)⟩
          · have hL' : ((t.sub.length : Int) == 0) = false := beq_false_of_ne (by have := List.length_pos_iff.2 hL; omega)
            have hLe : t.sub.isEmpty = false := by simpa using hL
            have hr : Hid (nodeB t = false) := by show _ = _; rw [hN, hLe]; rfl
            clear hN
            go_wp2_with (first | (go_at_call 58; refine (rwide_eq hw _).mono ?_; rintro e w2 ⟨rfl, rfl⟩))
            go_ret
            exact ⟨ret_bool (by rw [hR.out, hr.out]), (hb.drew : Ext w _)⟩
        have hk1' : (t.kind == 1) = false := beq_false_of_ne hk1
        have hk2' : (t.kind == 2) = false := beq_false_of_ne hk2
        by_cases hk3 : t.kind < 3
        · have hN := nB0 (t := t) (by omega)
          have hr : Hid (nodeB t = false) := by show _ = _; exact hN
          clear hN
          go_wp2_with (first | (go_at_call 58; refine (rwide_eq hw _).mono ?_; rintro e w2 ⟨rfl, rfl⟩))
          go_ret
          exact ⟨ret_bool (by rw [hR.out, hr.out]), (hb.drew : Ext w _)⟩
        by_cases hk24 : 24 < t.kind
        · have hN := nB0 (t := t) (by omega)
          have hk3' : 3 ≤ t.kind := by omega
          have hr : Hid (nodeB t = false) := by show _ = _; exact hN
          clear hN
          go_wp2_with (first | (go_at_call 58; refine (rwide_eq hw _).mono ?_; rintro e w2 ⟨rfl, rfl⟩))
          go_ret
          exact ⟨ret_bool (by rw [hR.out, hr.out]), (hb.drew : Ext w _)⟩
        have hN := nB3 (by omega) hw
        replace hk3 : 3 ≤ t.kind := by omega
        replace hk24 : t.kind ≤ 24 := by omega
        cases hbt : (t.bits == 0) with
        | false =>
          have hbt' : (t.bits != 0) = true := by simp [bne, hbt]
          have hr : Hid (nodeB t = false) := by show _ = _; rw [hN, hbt]; rfl
          clear hN
          go_wp2_with (first | (go_at_call 58; refine (rwide_eq hw _).mono ?_; rintro e w2 ⟨rfl, rfl⟩))
          go_ret
          exact ⟨ret_bool (by rw [hR.out, hr.out]), (hb.drew : Ext w _)⟩
        | true =>
          have hbt' : (t.bits != 0) = false := by simp [bne, hbt]
          cases hn : t.name.toList.isEmpty with
          | false =>
            have hr : Hid (nodeB t = false) := by show _ = _; rw [hN, hn, hbt]; rfl
            clear hN
            go_wp2_with (first | (go_at_call 58; refine (rwide_eq hw _).mono ?_; rintro e w2 ⟨rfl, rfl⟩))
            go_ret
            exact ⟨ret_bool (by rw [hR.out, hr.out]), (hb.drew : Ext w _)⟩
          | true =>
            have hn' : t.name.toList = [] := by simpa using hn
            by_cases hlo : t.low ≠ 0 ∧ t.kind ≠ 21
            · have hlo1 : (t.low != 0) = true := by simpa [bne] using hlo.1
              have hlo2 : (t.kind != 21) = true := by simpa [bne] using hlo.2
              have hr : Hid (nodeB t = false) := by show _ = _; rw [hN, show (t.low == 0) = false from beq_false_of_ne hlo.1, show (t.kind == 21) = false from beq_false_of_ne hlo.2]; simp
              go_wp2_with (first | (go_at_call 58; refine (rwide_eq hw _).mono ?_; rintro e w2 ⟨rfl, rfl⟩))
              go_ret
              exact ⟨ret_bool (by rw [hR.out, hr.out]), (hb.drew : Ext w _)⟩
            have hN2 : nodeB t = (((t.sub.length : Int) == partsI t.kind) && wdB t) := by rw [hN, hbt, hn]; (by_cases h0 : t.low = 0); (· simp [h0]); (· simp [show t.kind = 21 from Classical.byContradiction fun h => hlo ⟨h0, h⟩])
            have hlow : Hid (t.low = 0 ∨ t.kind = 21) := by show _ ∨ _; omega
            clear hN
            by_cases hL : t.sub = []
            · have hL' : ((t.sub.length : Int) == 0) = true := by simp [hL]
              have hp0 : partsI t.kind ≠ 0 := by unfold partsI; omega
              have hr : Hid (nodeB t = false) := by show _ = _; rw [hN2, show ((t.sub.length : Int) == partsI t.kind) = false from beq_false_of_ne (by rw [hL]; exact Ne.symm hp0)]; rfl
              clear hN2 hp0
              rcases hlow.out with h | h
              · have h' : (t.low != 0) = false := by simp [h]
                go_wp2_with (first | (go_at_call 58; refine (rwide_eq hw _).mono ?_; rintro e w2 ⟨rfl, rfl⟩))
                go_ret
                exact ⟨ret_bool (by rw [hR.out, hr.out]), (hb.drew : Ext w _)⟩
              · have h' : (t.kind != 21) = false := by simp [h]
                clear hk1' hk2' hk3 hk24 hk1 hk2 hlo
                cases hlz : (t.low != 0)
                all_goals
                  go_wp2_with (first | (go_at_call 58; refine (rwide_eq hw _).mono ?_; rintro e w2 ⟨rfl, rfl⟩))
                  go_ret
                  exact ⟨ret_bool (by rw [hR.out, hr.out]), (hb.drew : Ext w _)⟩
            have hL' : ((t.sub.length : Int) == 0) = false := beq_false_of_ne (by have := List.length_pos_iff.2 hL; omega)
            have hpos : 0 < t.sub.length := List.length_pos_iff.2 hL
            have hS := hs.mono hb
            obtain ⟨b, o, A', c', rfl, -⟩ := hS.at_ 0 hpos
            have e0 := width_at hS 0 hpos
            have x0 := formed_wide hpos hall
            simp only [Nat.zero_mul, Nat.add_zero] at e0
            have hw0 : wideB t.sub[0].width = true := by simpa [wideB] using x0
            by_cases hkk : t.kind = 3
            · have hpk : partsI t.kind = 1 := by rw [hkk]; decide
              have hpw : howI t.kind = 1 := by rw [hkk]; decide
              replace hpk := Lib.hid hpk
              replace hpw := Lib.hid hpw
              have hlo0 : t.low = 0 := by rcases hlow.out with h | h <;> omega
              have hlo' : (t.low != 0) = false := by simp [hlo0]
              clear hk1' hk2' hk3 hk24 hk1 hk2 hlo hlo0 hlow
              by_cases hlen : t.sub.length = 1
              · skip
                have hlp : ((t.sub.length : Int) == 1) = true := beq_iff_eq.2 (by omega)
                have hr : Hid (nodeB t = (t.sub[0].width == t.width)) := by show _ = _; rw [hN2, show partsI t.kind = 1 from hpk.out, hlp, wd1a hlen hpw.out]; rfl
                clear hN2 hpk hpw
                go_wp2_with (first | (go_at_call 58; refine (rwide_eq hw _).mono ?_; rintro e w2 ⟨rfl, rfl⟩))
                go_ret
                exact ⟨ret_bool (by rw [hR.out, hr.out]), (hb.drew : Ext w _)⟩
              · skip
                have hlp : ((t.sub.length : Int) == 1) = false := beq_false_of_ne (by omega)
                have hr : Hid (nodeB t = false) := by show _ = _; rw [hN2, show partsI t.kind = 1 from hpk.out, hlp]; rfl
                clear hN2 hpk hpw
                go_wp2_with (first | (go_at_call 58; refine (rwide_eq hw _).mono ?_; rintro e w2 ⟨rfl, rfl⟩))
                go_ret
                exact ⟨ret_bool (by rw [hR.out, hr.out]), (hb.drew : Ext w _)⟩
            have hkk3 : (t.kind == 3) = false := beq_false_of_ne hkk
            replace hkk := Lib.hid hkk
            have hh3 := hkk
            clear hkk
            by_cases hkk : t.kind = 4
            · have hpk : partsI t.kind = 1 := by rw [hkk]; decide
              have hpw : howI t.kind = 1 := by rw [hkk]; decide
              replace hpk := Lib.hid hpk
              replace hpw := Lib.hid hpw
              have hlo0 : t.low = 0 := by rcases hlow.out with h | h <;> omega
              have hlo' : (t.low != 0) = false := by simp [hlo0]
              clear hk1' hk2' hk3 hk24 hk1 hk2 hlo hlo0 hlow
              by_cases hlen : t.sub.length = 1
              · skip
                have hlp : ((t.sub.length : Int) == 1) = true := beq_iff_eq.2 (by omega)
                have hr : Hid (nodeB t = (t.sub[0].width == t.width)) := by show _ = _; rw [hN2, show partsI t.kind = 1 from hpk.out, hlp, wd1a hlen hpw.out]; rfl
                clear hN2 hpk hpw
                go_wp2_with (first | (go_at_call 58; refine (rwide_eq hw _).mono ?_; rintro e w2 ⟨rfl, rfl⟩))
                go_ret
                exact ⟨ret_bool (by rw [hR.out, hr.out]), (hb.drew : Ext w _)⟩
              · skip
                have hlp : ((t.sub.length : Int) == 1) = false := beq_false_of_ne (by omega)
                have hr : Hid (nodeB t = false) := by show _ = _; rw [hN2, show partsI t.kind = 1 from hpk.out, hlp]; rfl
                clear hN2 hpk hpw
                go_wp2_with (first | (go_at_call 58; refine (rwide_eq hw _).mono ?_; rintro e w2 ⟨rfl, rfl⟩))
                go_ret
                exact ⟨ret_bool (by rw [hR.out, hr.out]), (hb.drew : Ext w _)⟩
            have hkk4 : (t.kind == 4) = false := beq_false_of_ne hkk
            replace hkk := Lib.hid hkk
            have hh4 := hkk
            clear hkk
            by_cases hkk : t.kind = 16
            · have hpk : partsI t.kind = 2 := by rw [hkk]; decide
              have hpw : howI t.kind = 2 := by rw [hkk]; decide
              replace hpk := Lib.hid hpk
              replace hpw := Lib.hid hpw
              have hlo0 : t.low = 0 := by rcases hlow.out with h | h <;> omega
              have hlo' : (t.low != 0) = false := by simp [hlo0]
              clear hk1' hk2' hk3 hk24 hk1 hk2 hlo hlo0 hlow
              by_cases hlen : t.sub.length = 2
              · skip
                have hlp : ((t.sub.length : Int) == 2) = true := beq_iff_eq.2 (by omega)
                have e1 := width_at hS 1 (by omega)
                have e1' : wr.cell? ⟨b, o + 7, none⟩ = _ := e1
                have x1 := formed_wide (k := 1) (by omega) hall
                have hw1' : wideB t.sub[1].width = true := by simpa [wideB] using x1
                cases hx : (t.width == 1) with
                | false =>
                  have hr : Hid (nodeB t = false) := by show _ = _; rw [hN2, show partsI t.kind = 2 from hpk.out, hlp, wd2 hlen hpw.out, hx]; rfl
                  clear hN2 hpk hpw
                  go_wp2_with (first | (go_at_call 58; refine (rwide_eq hw _).mono ?_; rintro e w2 ⟨rfl, rfl⟩))
                  go_ret
                  exact ⟨ret_bool (by rw [hR.out, hr.out]), (hb.drew : Ext w _)⟩
                | true =>
                  have hr : Hid (nodeB t = (t.sub[1].width == t.sub[0].width)) := by show _ = _; rw [hN2, show partsI t.kind = 2 from hpk.out, hlp, wd2 hlen hpw.out, hx]; rfl
                  clear hN2 hpk hpw
                  go_wp2_with (first | (go_at_call 58; refine (rwide_eq hw _).mono ?_; rintro e w2 ⟨rfl, rfl⟩))
                  go_ret
                  exact ⟨ret_bool (by rw [hR.out, hr.out]), (hb.drew : Ext w _)⟩
              · skip
                have hlp : ((t.sub.length : Int) == 2) = false := beq_false_of_ne (by omega)
                have hr : Hid (nodeB t = false) := by show _ = _; rw [hN2, show partsI t.kind = 2 from hpk.out, hlp]; rfl
                clear hN2 hpk hpw
                go_wp2_with (first | (go_at_call 58; refine (rwide_eq hw _).mono ?_; rintro e w2 ⟨rfl, rfl⟩))
                go_ret
                exact ⟨ret_bool (by rw [hR.out, hr.out]), (hb.drew : Ext w _)⟩
            have hkk16 : (t.kind == 16) = false := beq_false_of_ne hkk
            replace hkk := Lib.hid hkk
            have hh16 := hkk
            clear hkk
            by_cases hkk : t.kind = 17
            · have hpk : partsI t.kind = 2 := by rw [hkk]; decide
              have hpw : howI t.kind = 2 := by rw [hkk]; decide
              replace hpk := Lib.hid hpk
              replace hpw := Lib.hid hpw
              have hlo0 : t.low = 0 := by rcases hlow.out with h | h <;> omega
              have hlo' : (t.low != 0) = false := by simp [hlo0]
              clear hk1' hk2' hk3 hk24 hk1 hk2 hlo hlo0 hlow
              by_cases hlen : t.sub.length = 2
              · skip
                have hlp : ((t.sub.length : Int) == 2) = true := beq_iff_eq.2 (by omega)
                have e1 := width_at hS 1 (by omega)
                have e1' : wr.cell? ⟨b, o + 7, none⟩ = _ := e1
                have x1 := formed_wide (k := 1) (by omega) hall
                have hw1' : wideB t.sub[1].width = true := by simpa [wideB] using x1
                cases hx : (t.width == 1) with
                | false =>
                  have hr : Hid (nodeB t = false) := by show _ = _; rw [hN2, show partsI t.kind = 2 from hpk.out, hlp, wd2 hlen hpw.out, hx]; rfl
                  clear hN2 hpk hpw
                  go_wp2_with (first | (go_at_call 58; refine (rwide_eq hw _).mono ?_; rintro e w2 ⟨rfl, rfl⟩))
                  go_ret
                  exact ⟨ret_bool (by rw [hR.out, hr.out]), (hb.drew : Ext w _)⟩
                | true =>
                  have hr : Hid (nodeB t = (t.sub[1].width == t.sub[0].width)) := by show _ = _; rw [hN2, show partsI t.kind = 2 from hpk.out, hlp, wd2 hlen hpw.out, hx]; rfl
                  clear hN2 hpk hpw
                  go_wp2_with (first | (go_at_call 58; refine (rwide_eq hw _).mono ?_; rintro e w2 ⟨rfl, rfl⟩))
                  go_ret
                  exact ⟨ret_bool (by rw [hR.out, hr.out]), (hb.drew : Ext w _)⟩
              · skip
                have hlp : ((t.sub.length : Int) == 2) = false := beq_false_of_ne (by omega)
                have hr : Hid (nodeB t = false) := by show _ = _; rw [hN2, show partsI t.kind = 2 from hpk.out, hlp]; rfl
                clear hN2 hpk hpw
                go_wp2_with (first | (go_at_call 58; refine (rwide_eq hw _).mono ?_; rintro e w2 ⟨rfl, rfl⟩))
                go_ret
                exact ⟨ret_bool (by rw [hR.out, hr.out]), (hb.drew : Ext w _)⟩
            have hkk17 : (t.kind == 17) = false := beq_false_of_ne hkk
            replace hkk := Lib.hid hkk
            have hh17 := hkk
            clear hkk
            by_cases hkk : t.kind = 18
            · have hpk : partsI t.kind = 2 := by rw [hkk]; decide
              have hpw : howI t.kind = 2 := by rw [hkk]; decide
              replace hpk := Lib.hid hpk
              replace hpw := Lib.hid hpw
              have hlo0 : t.low = 0 := by rcases hlow.out with h | h <;> omega
              have hlo' : (t.low != 0) = false := by simp [hlo0]
              clear hk1' hk2' hk3 hk24 hk1 hk2 hlo hlo0 hlow
              by_cases hlen : t.sub.length = 2
              · skip
                have hlp : ((t.sub.length : Int) == 2) = true := beq_iff_eq.2 (by omega)
                have e1 := width_at hS 1 (by omega)
                have e1' : wr.cell? ⟨b, o + 7, none⟩ = _ := e1
                have x1 := formed_wide (k := 1) (by omega) hall
                have hw1' : wideB t.sub[1].width = true := by simpa [wideB] using x1
                cases hx : (t.width == 1) with
                | false =>
                  have hr : Hid (nodeB t = false) := by show _ = _; rw [hN2, show partsI t.kind = 2 from hpk.out, hlp, wd2 hlen hpw.out, hx]; rfl
                  clear hN2 hpk hpw
                  go_wp2_with (first | (go_at_call 58; refine (rwide_eq hw _).mono ?_; rintro e w2 ⟨rfl, rfl⟩))
                  go_ret
                  exact ⟨ret_bool (by rw [hR.out, hr.out]), (hb.drew : Ext w _)⟩
                | true =>
                  have hr : Hid (nodeB t = (t.sub[1].width == t.sub[0].width)) := by show _ = _; rw [hN2, show partsI t.kind = 2 from hpk.out, hlp, wd2 hlen hpw.out, hx]; rfl
                  clear hN2 hpk hpw
                  go_wp2_with (first | (go_at_call 58; refine (rwide_eq hw _).mono ?_; rintro e w2 ⟨rfl, rfl⟩))
                  go_ret
                  exact ⟨ret_bool (by rw [hR.out, hr.out]), (hb.drew : Ext w _)⟩
              · skip
                have hlp : ((t.sub.length : Int) == 2) = false := beq_false_of_ne (by omega)
                have hr : Hid (nodeB t = false) := by show _ = _; rw [hN2, show partsI t.kind = 2 from hpk.out, hlp]; rfl
                clear hN2 hpk hpw
                go_wp2_with (first | (go_at_call 58; refine (rwide_eq hw _).mono ?_; rintro e w2 ⟨rfl, rfl⟩))
                go_ret
                exact ⟨ret_bool (by rw [hR.out, hr.out]), (hb.drew : Ext w _)⟩
            have hkk18 : (t.kind == 18) = false := beq_false_of_ne hkk
            replace hkk := Lib.hid hkk
            have hh18 := hkk
            clear hkk
            by_cases hkk : t.kind = 19
            · have hpk : partsI t.kind = 3 := by rw [hkk]; decide
              have hpw : howI t.kind = 3 := by rw [hkk]; decide
              replace hpk := Lib.hid hpk
              replace hpw := Lib.hid hpw
              have hlo0 : t.low = 0 := by rcases hlow.out with h | h <;> omega
              have hlo' : (t.low != 0) = false := by simp [hlo0]
              clear hk1' hk2' hk3 hk24 hk1 hk2 hlo hlo0 hlow
              by_cases hlen : t.sub.length = 3
              · skip
                have hlp : ((t.sub.length : Int) == 3) = true := beq_iff_eq.2 (by omega)
                have e1 := width_at hS 1 (by omega)
                have e1' : wr.cell? ⟨b, o + 7, none⟩ = _ := e1
                have x1 := formed_wide (k := 1) (by omega) hall
                have hw1' : wideB t.sub[1].width = true := by simpa [wideB] using x1
                have e2 := width_at hS 2 (by omega)
                have e2' : wr.cell? ⟨b, o + 13, none⟩ = _ := e2
                cases hx : (t.sub[0].width == 1) with
                | false =>
                  have hr : Hid (nodeB t = false) := by show _ = _; rw [hN2, show partsI t.kind = 3 from hpk.out, hlp, wd3 hlen hpw.out, hx]; rfl
                  clear hN2 hpk hpw
                  go_wp2_with (first | (go_at_call 58; refine (rwide_eq hw _).mono ?_; rintro e w2 ⟨rfl, rfl⟩))
                  go_ret
                  exact ⟨ret_bool (by rw [hR.out, hr.out]), (hb.drew : Ext w _)⟩
                | true =>
                  cases hy : (t.sub[1].width == t.width) with
                  | false =>
                    have hr : Hid (nodeB t = false) := by show _ = _; rw [hN2, show partsI t.kind = 3 from hpk.out, hlp, wd3 hlen hpw.out, hx, hy]; rfl
                    clear hN2 hpk hpw
                    go_wp2_with (first | (go_at_call 58; refine (rwide_eq hw _).mono ?_; rintro e w2 ⟨rfl, rfl⟩))
                    go_ret
                    exact ⟨ret_bool (by rw [hR.out, hr.out]), (hb.drew : Ext w _)⟩
                  | true =>
                    have hr : Hid (nodeB t = (t.sub[2].width == t.width)) := by show _ = _; rw [hN2, show partsI t.kind = 3 from hpk.out, hlp, wd3 hlen hpw.out, hx, hy]; rfl
                    clear hN2 hpk hpw
                    go_wp2_with (first | (go_at_call 58; refine (rwide_eq hw _).mono ?_; rintro e w2 ⟨rfl, rfl⟩))
                    go_ret
                    exact ⟨ret_bool (by rw [hR.out, hr.out]), (hb.drew : Ext w _)⟩
              · skip
                have hlp : ((t.sub.length : Int) == 3) = false := beq_false_of_ne (by omega)
                have hr : Hid (nodeB t = false) := by show _ = _; rw [hN2, show partsI t.kind = 3 from hpk.out, hlp]; rfl
                clear hN2 hpk hpw
                go_wp2_with (first | (go_at_call 58; refine (rwide_eq hw _).mono ?_; rintro e w2 ⟨rfl, rfl⟩))
                go_ret
                exact ⟨ret_bool (by rw [hR.out, hr.out]), (hb.drew : Ext w _)⟩
            have hkk19 : (t.kind == 19) = false := beq_false_of_ne hkk
            replace hkk := Lib.hid hkk
            have hh19 := hkk
            clear hkk
            by_cases hkk : t.kind = 20
            · have hpk : partsI t.kind = 2 := by rw [hkk]; decide
              have hpw : howI t.kind = 4 := by rw [hkk]; decide
              replace hpk := Lib.hid hpk
              replace hpw := Lib.hid hpw
              have hlo0 : t.low = 0 := by rcases hlow.out with h | h <;> omega
              have hlo' : (t.low != 0) = false := by simp [hlo0]
              clear hk1' hk2' hk3 hk24 hk1 hk2 hlo hlo0 hlow
              by_cases hlen : t.sub.length = 2
              · skip
                have hlp : ((t.sub.length : Int) == 2) = true := beq_iff_eq.2 (by omega)
                have e1 := width_at hS 1 (by omega)
                have e1' : wr.cell? ⟨b, o + 7, none⟩ = _ := e1
                have x1 := formed_wide (k := 1) (by omega) hall
                have hw1' : wideB t.sub[1].width = true := by simpa [wideB] using x1
                have hr : Hid (nodeB t = (t.sub[0].width + t.sub[1].width == t.width)) := by show _ = _; rw [hN2, show partsI t.kind = 2 from hpk.out, hlp, wd4 hlen hpw.out, hw0, hw1']; rfl
                clear hN2 hpk hpw
                go_wp2_with (first | (go_at_call 58; refine (rwide_eq hw _).mono ?_; rintro e w2 ⟨rfl, rfl⟩))
                go_ret
                exact ⟨ret_bool (by rw [hR.out, hr.out]), (hb.drew : Ext w _)⟩
              · skip
                have hlp : ((t.sub.length : Int) == 2) = false := beq_false_of_ne (by omega)
                have hr : Hid (nodeB t = false) := by show _ = _; rw [hN2, show partsI t.kind = 2 from hpk.out, hlp]; rfl
                clear hN2 hpk hpw
                go_wp2_with (first | (go_at_call 58; refine (rwide_eq hw _).mono ?_; rintro e w2 ⟨rfl, rfl⟩))
                go_ret
                exact ⟨ret_bool (by rw [hR.out, hr.out]), (hb.drew : Ext w _)⟩
            have hkk20 : (t.kind == 20) = false := beq_false_of_ne hkk
            replace hkk := Lib.hid hkk
            have hh20 := hkk
            clear hkk
            by_cases hkk : t.kind = 21
            · have hpk : partsI t.kind = 1 := by rw [hkk]; decide
              have hpw : howI t.kind = 5 := by rw [hkk]; decide
              replace hpk := Lib.hid hpk
              replace hpw := Lib.hid hpw
              have hk' : (t.kind != 21) = false := by simp [hkk]
              clear hk1' hk2' hk3 hk24 hk1 hk2 hlo hlow
              cases hlo' : (t.low != 0)
              all_goals
                by_cases hlen : t.sub.length = 1
                · skip
                  have hlp : ((t.sub.length : Int) == 1) = true := beq_iff_eq.2 (by omega)
                  by_cases hx : 0 ≤ t.low
                  · by_cases hy : t.low ≤ t.sub[0].width
                    · have hz : Hid (nodeB t = decide (t.low + t.width ≤ t.sub[0].width)) := by show _ = _; rw [hN2, show partsI t.kind = 1 from hpk.out, hlp, wd5 hlen hpw.out, hw0, decide_eq_true hx]; simp only [Bool.true_and, Bool.and_true, beq_self_eq_true]; rw [← Bool.decide_and, decide_eq_decide]; omega
                      have hr := hz
                      clear hN2 hpk hpw hz
                      go_wp2_with (first | (go_at_call 58; refine (rwide_eq hw _).mono ?_; rintro e w2 ⟨rfl, rfl⟩))
                      go_ret
                      exact ⟨ret_bool (by rw [hR.out, hr.out]), (hb.drew : Ext w _)⟩
                    · have hy' : t.sub[0].width < t.low := by omega
                      clear hy
                      have hr : Hid (nodeB t = false) := by show _ = _; rw [hN2, show partsI t.kind = 1 from hpk.out, hlp, wd5 hlen hpw.out, show decide (t.low ≤ t.sub[0].width - t.width) = false from decide_eq_false (by omega)]; simp
                      clear hN2 hpk hpw
                      go_wp2_with (first | (go_at_call 58; refine (rwide_eq hw _).mono ?_; rintro e w2 ⟨rfl, rfl⟩))
                      go_ret
                      exact ⟨ret_bool (by rw [hR.out, hr.out]), (hb.drew : Ext w _)⟩
                  · have hx' : t.low < 0 := by omega
                    clear hx
                    have hr : Hid (nodeB t = false) := by show _ = _; rw [hN2, show partsI t.kind = 1 from hpk.out, hlp, wd5 hlen hpw.out, show decide (0 ≤ t.low) = false from decide_eq_false (by omega)]; rfl
                    clear hN2 hpk hpw
                    go_wp2_with (first | (go_at_call 58; refine (rwide_eq hw _).mono ?_; rintro e w2 ⟨rfl, rfl⟩))
                    go_ret
                    exact ⟨ret_bool (by rw [hR.out, hr.out]), (hb.drew : Ext w _)⟩
                · skip
                  have hlp : ((t.sub.length : Int) == 1) = false := beq_false_of_ne (by omega)
                  have hr : Hid (nodeB t = false) := by show _ = _; rw [hN2, show partsI t.kind = 1 from hpk.out, hlp]; rfl
                  clear hN2 hpk hpw
                  go_wp2_with (first | (go_at_call 58; refine (rwide_eq hw _).mono ?_; rintro e w2 ⟨rfl, rfl⟩))
                  go_ret
                  exact ⟨ret_bool (by rw [hR.out, hr.out]), (hb.drew : Ext w _)⟩
            have hkk21 : (t.kind == 21) = false := beq_false_of_ne hkk
            replace hkk := Lib.hid hkk
            have hh21 := hkk
            clear hkk
            by_cases hkk : t.kind = 22
            · have hpk : partsI t.kind = 1 := by rw [hkk]; decide
              have hpw : howI t.kind = 6 := by rw [hkk]; decide
              replace hpk := Lib.hid hpk
              replace hpw := Lib.hid hpw
              have hlo0 : t.low = 0 := by rcases hlow.out with h | h <;> omega
              have hlo' : (t.low != 0) = false := by simp [hlo0]
              clear hk1' hk2' hk3 hk24 hk1 hk2 hlo hlo0 hlow
              by_cases hlen : t.sub.length = 1
              · skip
                have hlp : ((t.sub.length : Int) == 1) = true := beq_iff_eq.2 (by omega)
                have hr : Hid (nodeB t = decide (t.sub[0].width ≤ t.width)) := by show _ = _; rw [hN2, show partsI t.kind = 1 from hpk.out, hlp, wd6 hlen hpw.out]; rfl
                clear hN2 hpk hpw
                go_wp2_with (first | (go_at_call 58; refine (rwide_eq hw _).mono ?_; rintro e w2 ⟨rfl, rfl⟩))
                go_ret
                exact ⟨ret_bool (by rw [hR.out, hr.out]), (hb.drew : Ext w _)⟩
              · skip
                have hlp : ((t.sub.length : Int) == 1) = false := beq_false_of_ne (by omega)
                have hr : Hid (nodeB t = false) := by show _ = _; rw [hN2, show partsI t.kind = 1 from hpk.out, hlp]; rfl
                clear hN2 hpk hpw
                go_wp2_with (first | (go_at_call 58; refine (rwide_eq hw _).mono ?_; rintro e w2 ⟨rfl, rfl⟩))
                go_ret
                exact ⟨ret_bool (by rw [hR.out, hr.out]), (hb.drew : Ext w _)⟩
            have hkk22 : (t.kind == 22) = false := beq_false_of_ne hkk
            replace hkk := Lib.hid hkk
            have hh22 := hkk
            clear hkk
            by_cases hkk : t.kind = 23
            · have hpk : partsI t.kind = 1 := by rw [hkk]; decide
              have hpw : howI t.kind = 6 := by rw [hkk]; decide
              replace hpk := Lib.hid hpk
              replace hpw := Lib.hid hpw
              have hlo0 : t.low = 0 := by rcases hlow.out with h | h <;> omega
              have hlo' : (t.low != 0) = false := by simp [hlo0]
              clear hk1' hk2' hk3 hk24 hk1 hk2 hlo hlo0 hlow
              by_cases hlen : t.sub.length = 1
              · skip
                have hlp : ((t.sub.length : Int) == 1) = true := beq_iff_eq.2 (by omega)
                have hr : Hid (nodeB t = decide (t.sub[0].width ≤ t.width)) := by show _ = _; rw [hN2, show partsI t.kind = 1 from hpk.out, hlp, wd6 hlen hpw.out]; rfl
                clear hN2 hpk hpw
                go_wp2_with (first | (go_at_call 58; refine (rwide_eq hw _).mono ?_; rintro e w2 ⟨rfl, rfl⟩))
                go_ret
                exact ⟨ret_bool (by rw [hR.out, hr.out]), (hb.drew : Ext w _)⟩
              · skip
                have hlp : ((t.sub.length : Int) == 1) = false := beq_false_of_ne (by omega)
                have hr : Hid (nodeB t = false) := by show _ = _; rw [hN2, show partsI t.kind = 1 from hpk.out, hlp]; rfl
                clear hN2 hpk hpw
                go_wp2_with (first | (go_at_call 58; refine (rwide_eq hw _).mono ?_; rintro e w2 ⟨rfl, rfl⟩))
                go_ret
                exact ⟨ret_bool (by rw [hR.out, hr.out]), (hb.drew : Ext w _)⟩
            have hkk23 : (t.kind == 23) = false := beq_false_of_ne hkk
            replace hkk := Lib.hid hkk
            have hh23 := hkk
            clear hkk
            by_cases hkk : t.kind = 24
            · have hpk : partsI t.kind = 1 := by rw [hkk]; decide
              have hpw : howI t.kind = 7 := by rw [hkk]; decide
              replace hpk := Lib.hid hpk
              replace hpw := Lib.hid hpw
              have hlo0 : t.low = 0 := by rcases hlow.out with h | h <;> omega
              have hlo' : (t.low != 0) = false := by simp [hlo0]
              clear hk1' hk2' hk3 hk24 hk1 hk2 hlo hlo0 hlow
              by_cases hlen : t.sub.length = 1
              · skip
                have hlp : ((t.sub.length : Int) == 1) = true := beq_iff_eq.2 (by omega)
                have hr : Hid (nodeB t = loadsB t.width) := by show _ = _; rw [hN2, show partsI t.kind = 1 from hpk.out, hlp, wd7 hpw.out]; rfl
                clear hN2 hpk hpw
                go_wp2_with (first | (go_at_call 58; refine (rwide_eq hw _).mono ?_; rintro e w2 ⟨rfl, rfl⟩) | (go_at_call 61; refine (rloads_calls _ _).mono ?_; rintro e w2 ⟨rfl, rfl⟩))
                go_ret
                exact ⟨ret_bool (by rw [hR.out, hr.out]), (hb.drew : Ext w _)⟩
              · skip
                have hlp : ((t.sub.length : Int) == 1) = false := beq_false_of_ne (by omega)
                have hr : Hid (nodeB t = false) := by show _ = _; rw [hN2, show partsI t.kind = 1 from hpk.out, hlp]; rfl
                clear hN2 hpk hpw
                go_wp2_with (first | (go_at_call 58; refine (rwide_eq hw _).mono ?_; rintro e w2 ⟨rfl, rfl⟩))
                go_ret
                exact ⟨ret_bool (by rw [hR.out, hr.out]), (hb.drew : Ext w _)⟩
            have hkk24 : (t.kind == 24) = false := beq_false_of_ne hkk
            replace hkk := Lib.hid hkk
            have hh24 := hkk
            clear hkk
            have hpk : partsI t.kind = 2 := by have := hh3.out; have := hh4.out; have := hh19.out; have := hh21.out; have := hh22.out; have := hh23.out; have := hh24.out; unfold partsI; omega
            have hpw : howI t.kind = 1 := by have := hh16.out; have := hh17.out; have := hh18.out; have := hh19.out; have := hh20.out; have := hh21.out; have := hh22.out; have := hh23.out; have := hh24.out; unfold howI; omega
            replace hpk := Lib.hid hpk
            replace hpw := Lib.hid hpw
            have hlo0 : t.low = 0 := by have := hh21.out; rcases hlow.out with h | h <;> omega
            have hlo' : (t.low != 0) = false := by simp [hlo0]
            clear hlo hlo0 hlow
            by_cases hlen : t.sub.length = 2
            · skip
              have hlp : ((t.sub.length : Int) == 2) = true := beq_iff_eq.2 (by omega)
              have e1 := width_at hS 1 (by omega)
              have e1' : wr.cell? ⟨b, o + 7, none⟩ = _ := e1
              have x1 := formed_wide (k := 1) (by omega) hall
              have hw1' : wideB t.sub[1].width = true := by simpa [wideB] using x1
              cases hx : (t.sub[0].width == t.width) with
              | false =>
                have hr : Hid (nodeB t = false) := by show _ = _; rw [hN2, show partsI t.kind = 2 from hpk.out, hlp, wd1b hlen hpw.out, hx]; rfl
                clear hN2 hpk hpw
                go_wp2_with (first | (go_at_call 58; refine (rwide_eq hw _).mono ?_; rintro e w2 ⟨rfl, rfl⟩))
                go_ret
                exact ⟨ret_bool (by rw [hR.out, hr.out]), (hb.drew : Ext w _)⟩
              | true =>
                have hr : Hid (nodeB t = (t.sub[1].width == t.width)) := by show _ = _; rw [hN2, show partsI t.kind = 2 from hpk.out, hlp, wd1b hlen hpw.out, hx]; rfl
                clear hN2 hpk hpw
                go_wp2_with (first | (go_at_call 58; refine (rwide_eq hw _).mono ?_; rintro e w2 ⟨rfl, rfl⟩))
                go_ret
                exact ⟨ret_bool (by rw [hR.out, hr.out]), (hb.drew : Ext w _)⟩
            · skip
              have hlp : ((t.sub.length : Int) == 2) = false := beq_false_of_ne (by omega)
              have hr : Hid (nodeB t = false) := by show _ = _; rw [hN2, show partsI t.kind = 2 from hpk.out, hlp]; rfl
              clear hN2 hpk hpw
              go_wp2_with (first | (go_at_call 58; refine (rwide_eq hw _).mono ?_; rintro e w2 ⟨rfl, rfl⟩))
              go_ret
              exact ⟨ret_bool (by rw [hR.out, hr.out]), (hb.drew : Ext w _)⟩
end Go.Proofs.YthaocbfmdcmkkaaDoor.K
