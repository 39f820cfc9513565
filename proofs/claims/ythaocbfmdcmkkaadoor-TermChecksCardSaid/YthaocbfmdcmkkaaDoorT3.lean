/- Walks: prefixes, names of variables, widths. -/
import Derived.Test.YthaocbfmdcmkkaaDoorT2
import Derived.Lib.IndexBytes
set_option linter.unusedVariables false
namespace Go.Proofs.YthaocbfmdcmkkaaDoor.K
open Go.RowKit

theorem twide_calls (x : Int) (w : World) : Calls Tryd.prog 53 #[.int .i64 x] w fun e w' => e = .returned (.bool (wideB x)) ∧ w = w' := by
  go_enter Tryd.func53, Tryd.ntmps53
  go_wp2
  · go_ret
    exact ⟨ret_bool (by simp [wideB, *]), rfl⟩
  · go_ret
    exact ⟨ret_bool (by simp [wideB]; omega), rfl⟩
theorem loadable_calls (x : Int) (w : World) : Calls Tryd.prog 93 #[.int .i64 x] w fun e w' => e = .returned (.bool (loadsB x)) ∧ w = w' := by
  have h : (x = 8 ∨ x = 16 ∨ x = 32) ∨ (x ≠ 8 ∧ x ≠ 16 ∧ x ≠ 32) := by omega
  rcases h with (rfl | rfl | rfl) | ⟨h1, h2, h3⟩
  · go_enter Tryd.func93, Tryd.ntmps93
    go_wp2
    go_ret
    exact ⟨rfl, rfl⟩
  · go_enter Tryd.func93, Tryd.ntmps93
    go_wp2
    go_ret
    exact ⟨rfl, rfl⟩
  · go_enter Tryd.func93, Tryd.ntmps93
    go_wp2
    go_ret
    exact ⟨rfl, rfl⟩
  have e1 : (x == 8) = false := by simp [h1]
  have e2 : (x == 16) = false := by simp [h2]
  have e3 : (x == 32) = false := by simp [h3]
  go_enter Tryd.func93, Tryd.ntmps93
  go_wp2
  all_goals (go_ret; exact ⟨ret_bool (by simp [loadsB, *]), rfl⟩)

/-- What is behind "r.", if it begins so. -/
def hasR (s : ByteArray) : Bool := decide (2 ≤ s.size) && (s.extract 0 2).toList == [114, 46]
def unR (s : ByteArray) : ByteArray := if hasR s then s.extract 2 s.size else s
theorem hasPrefix_r (s : ByteArray) (w : World) (hs : s.size ≤ 140737488355328) : Calls Tryd.prog 101 #[.string s, .string ⟨#[114, 46]⟩] w fun e w' => e = .returned (.bool (hasR s)) ∧ w = w' := by
  by_cases h : 2 ≤ s.size
  · go_enter Tryd.func101, Tryd.ntmps101
    go_wp2
    go_ret
    exact ⟨ret_bool (by simp [hasR, h]), rfl⟩
  · go_enter Tryd.func101, Tryd.ntmps101
    go_wp2
    go_ret
    exact ⟨ret_bool (by simp [hasR, h]), rfl⟩
theorem trimPrefix1_r (s : ByteArray) (w : World) (hs : s.size ≤ 140737488355328) : Calls Tryd.prog 110 #[.string s, .string ⟨#[114, 46]⟩] w fun e w' => e = .returned (.string (unR s)) ∧ w = w' := by
  cases h : hasR s with
  | true =>
    have h2 : 2 ≤ s.size := by simp [hasR] at h; exact h.1
    have hu : Hid (unR s = s.extract 2 s.size) := by show unR s = _; simp [unR, h]
    go_enter Tryd.func110, Tryd.ntmps110
    go_wp2_with (go_at_call 101; refine (hasPrefix_r _ _ hs).mono ?_; rintro e w' ⟨rfl, rfl⟩)
    go_ret
    exact ⟨by rw [hu.out]; rfl, rfl⟩
  | false =>
    have hu : Hid (unR s = s) := by show unR s = _; simp [unR, h]
    go_enter Tryd.func110, Tryd.ntmps110
    go_wp2_with (go_at_call 101; refine (hasPrefix_r _ _ hs).mono ?_; rintro e w' ⟨rfl, rfl⟩)
    go_ret
    exact ⟨by rw [hu.out]; rfl, rfl⟩
theorem trimPrefix_r (s : ByteArray) (w : World) (hs : s.size ≤ 140737488355328) : Calls Tryd.prog 90 #[.string s, .string ⟨#[114, 46]⟩] w fun e w' => e = .returned (.string (unR s)) ∧ w = w' := by
  go_enter Tryd.func90, Tryd.ntmps90
  go_wp2_with (go_at_call 110; refine (trimPrefix1_r _ _ hs).mono ?_; rintro e w' ⟨rfl, rfl⟩)
  go_ret
  exact ⟨rfl, rfl⟩
theorem hasR_iff (s : ByteArray) : hasR s = true ↔ ∃ cs, s.data.toList = 114 :: 46 :: cs := by
  simp only [hasR, Bool.and_eq_true, decide_eq_true_eq, beq_iff_eq, ByteArray.toList_eq, Lib.extract_data, List.drop_zero, Nat.sub_zero]
  rw [show s.size = s.data.toList.length from Lib.size_eq s]
  constructor
  · rintro ⟨h1, h2⟩
    match hl : s.data.toList, h1, h2 with
    | a :: b :: cs, _, h2 => simp at h2; exact ⟨cs, by rw [h2.1, h2.2]⟩
  · rintro ⟨cs, h⟩
    simp [h]
theorem varB_unR (s : ByteArray) : varB s = nameB (unR s) := by
  unfold unR
  split
  · rename_i h
    obtain ⟨cs, hc⟩ := (hasR_iff s).1 h
    rw [varB, nameB, Lib.extract_to_end, hc]
    rfl
  · rename_i h
    rw [hasR_iff] at h
    unfold varB varL nameB
    split
    · rename_i cs hc
      exact (h ⟨cs, hc⟩).elim
    · rfl
theorem unR_size (s : ByteArray) : (unR s).size ≤ s.size := by unfold unR; split <;> simp
theorem variable_calls (s : ByteArray) (w : World) (hs : s.size ≤ 140737488355328) : Calls Tryd.prog 56 #[.string s] w fun e w' => e = .returned (.bool (varB s)) ∧ w = w' := by
  have hz := unR_size s
  have hv := Lib.hid (varB_unR s)
  go_enter Tryd.func56, Tryd.ntmps56
  go_wp2_with (first | (go_at_call 90; refine (trimPrefix_r _ _ hs).mono ?_; rintro e w' ⟨rfl, rfl⟩) | (go_at_call 89; refine (name_calls _ _ (by omega)).mono ?_; rintro e w' ⟨rfl, rfl⟩))
  go_ret
  exact ⟨ret_bool hv.out.symm, rfl⟩
end Go.Proofs.YthaocbfmdcmkkaaDoor.K
