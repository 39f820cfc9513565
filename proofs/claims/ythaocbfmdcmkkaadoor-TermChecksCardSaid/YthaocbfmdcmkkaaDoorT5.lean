/- Walks: a node. -/
import Derived.Test.YthaocbfmdcmkkaaDoorT4
import Derived.Deep.Light
set_option linter.unusedVariables false
namespace Go.Proofs.YthaocbfmdcmkkaaDoor.K
open Go.RowKit

set_option maxHeartbeats 2000000 in
set_option maxRecDepth 100000 in
theorem node0_calls (t : Tm) (A : Option Addr) (c : Nat) (w : World) (hx : t.sub.length ≤ 1000000) (hn : t.name.size ≤ 140737488355328) (h0 : 0 ≤ t.kind) (h1 : t.kind ≤ 255) (hG : Shapes w) (hp : partsI t.kind = 0) (hw : wideB t.width = true) :
    Calls Tryd.prog 39 #[tv t A c] w fun e w' => e = .returned (.bool (nodeB t)) ∧ Ext w w' := by
  have hp' : decide (0 < partsI t.kind) = false := by simp [hp]
  go_enter Tryd.func39, Tryd.ntmps39
  go_wp2_with (first
    | (go_at_call 53; refine (twide_eq hw _).mono ?_; rintro e w' ⟨rfl, rfl⟩)
    | (go_at_call 54; refine (shaped_calls _ _ h0 h1 (hG.mono ((Ext.refl w).alloc _))).mono ?_; rintro e w2 ⟨rfl, hb⟩; obtain ⟨q0, q1, q2, q3, q4, q5, q6⟩ := box6 hb)
    | (go_at_call 55; refine (ok_calls _ _ _).mono ?_; rintro e w' ⟨rfl, rfl⟩)
    | (go_at_call 56; refine (variable_calls _ _ hn).mono ?_; rintro e w' ⟨rfl, rfl⟩))
  all_goals (go_ret; exact ⟨ret_bool (by go_light; clear q0 q1 q2 q3 q4 q5 hb hG hp'; unfold nodeB; rw [if_pos hp, hw]; simp [*]), (((Ext.refl w).alloc _).trans hb).alloc _⟩)
theorem nodeB_parts {t : Tm} (hp : partsI t.kind ≠ 0) (hw : wideB t.width = true) : nodeB t = (t.bits == 0 && t.name.toList.isEmpty && (t.low == 0 || howI t.kind == 5) && ((t.sub.length : Int) == partsI t.kind) && wdB t) := by
  have hh : (howI t.kind == 5) = (t.kind == 21) := by rw [Bool.eq_iff_iff]; simp; unfold howI; omega
  unfold nodeB
  rw [if_neg hp, hw, hh]; rfl
set_option maxHeartbeats 2000000 in
set_option maxRecDepth 100000 in
theorem node1_calls (t : Tm) (A : Option Addr) (c : Nat) (w : World) (hx : t.sub.length ≤ 1000000) (hs : Subs w 0 A t.sub) (h0 : 0 ≤ t.kind) (h1 : t.kind ≤ 255) (hG : Shapes w) (hp : partsI t.kind ≠ 0) (hw : wideB t.width = true) :
    Calls Tryd.prog 39 #[tv t A c] w fun e w' => e = .returned (.bool (nodeB t)) ∧ Ext w w' := by
  have hp' : decide (0 < partsI t.kind) = true := by simp; unfold partsI at hp ⊢; omega
  have hr := Lib.hid (nodeB_parts hp hw)
  cases hb0 : (t.bits == 0) <;> cases hn : t.name.toList.isEmpty <;> cases hlo : (t.low == 0) <;> cases hh : (howI t.kind == 5) <;> cases hl : ((t.sub.length : Int) == partsI t.kind)
  all_goals
    try have hn' : t.name.toList = [] := by simpa using hn
    try have hl' := Lib.hid (eq_of_beq hl)
    rw [hb0, hn, hlo, hh, hl] at hr
    go_enter Tryd.func39, Tryd.ntmps39
    go_wp2_with (first
      | (go_at_call 53; refine (twide_eq hw _).mono ?_; rintro e w' ⟨rfl, rfl⟩)
      | (go_at_call 54; refine (shaped_calls _ _ h0 h1 (hG.mono ((Ext.refl w).alloc _))).mono ?_; rintro e w2 ⟨rfl, hb⟩; obtain ⟨q0, q1, q2, q3, q4, q5, q6⟩ := box6 hb)
      | (go_at_call 57; (with_reducible refine (widths_calls t _ _ _ hl'.out hp (hs.mono ((((Ext.refl w).alloc _).trans hb).alloc _)) hw).mono ?_); rintro e w3 ⟨rfl, hb3⟩))
    go_ret
    first
    | exact ⟨ret_bool (by rw [hr.out]; rfl), (((Ext.refl w).alloc _).trans hb).alloc _⟩
    | exact ⟨ret_bool (by rw [hr.out]; rfl), ((((Ext.refl w).alloc _).trans hb).alloc _).trans hb3⟩
theorem node_calls (t : Tm) (A : Option Addr) (c : Nat) (w : World) (hx : t.sub.length ≤ 1000000) (hn : t.name.size ≤ 140737488355328) (hs : Subs w 0 A t.sub) (h0 : 0 ≤ t.kind) (h1 : t.kind ≤ 255) (hG : Shapes w) :
    Calls Tryd.prog 39 #[tv t A c] w fun e w' => e = .returned (.bool (nodeB t)) ∧ Ext w w' := by
  cases hw : wideB t.width with
  | false =>
    have hr : Hid (nodeB t = false) := by show _ = _; unfold nodeB; rw [hw]; rfl
    go_enter Tryd.func39, Tryd.ntmps39
    go_wp2_with (go_at_call 53; refine (twide_eq hw _).mono ?_; rintro e w' ⟨rfl, rfl⟩)
    go_ret
    exact ⟨ret_bool hr.out.symm, (Ext.refl w).alloc _⟩
  | true =>
    by_cases hp : partsI t.kind = 0
    · exact node0_calls t A c w hx hn h0 h1 hG hp hw
    · exact node1_calls t A c w hx hs h0 h1 hG hp hw
end Go.Proofs.YthaocbfmdcmkkaaDoor.K
