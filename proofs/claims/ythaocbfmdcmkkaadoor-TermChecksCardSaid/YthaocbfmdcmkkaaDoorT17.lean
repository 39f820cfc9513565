/- Walks, the reference: Name, Variable. -/
import Derived.Test.YthaocbfmdcmkkaaDoorT16
set_option linter.unusedVariables false
namespace Go.Proofs.YthaocbfmdcmkkaaDoor.K
open Go.RowKit

set_option maxHeartbeats 1000000 in
theorem rname_calls (s : ByteArray) (w : World) (hs : s.size ≤ 140737488355328) : Calls Tryd.prog 95 #[.string s] w fun e w' => e = .returned (.bool (nameB s)) ∧ w = w' := by
  have h00 : 1 ≤ s.size → ((s.size : Int) == 0) = false := fun h => beq_false_of_ne (by omega)
  go_enter Tryd.func95, Tryd.ntmps95
  by_cases h0 : 1 ≤ s.size ∧ s.size ≤ 24
  · obtain ⟨h1, h2⟩ := h0
    replace h00 := h00 h1
    go_wp2
    go_loop [3, 4, 5, 6] (fun i _ _ _ => ∃ k : Nat, k ≤ s.size ∧ i = .int .i64 k ∧ ∀ j (h : j < s.size), j < k → chB j s[j] = true) (fun i _ _ _ => s.size - (intOf i).toNat)
    case atStart => exact ⟨0, by omega, rfl, by omega⟩
    case round =>
      obtain ⟨k, hk, rfl, ha⟩ := hrel
      have Ha := Lib.hid ha
      clear ha
      by_cases hlt : k < s.size
      · have hx0 : 0 ≤ (s[k].toNat : Int) := by omega
        have hcl : (97 ≤ (s[k].toNat : Int) ∧ (s[k].toNat : Int) ≤ 122) ∨ (65 ≤ (s[k].toNat : Int) ∧ (s[k].toNat : Int) ≤ 90) ∨ ((0 < k ∧ 95 ≤ (s[k].toNat : Int) ∧ (s[k].toNat : Int) ≤ 95) ∨ (0 < k ∧ 48 ≤ (s[k].toNat : Int) ∧ (s[k].toNat : Int) ≤ 57)) ∨ ¬ chB k s[k] = true := by
          rw [chB_iff]; omega
        have hnx : Hid (∀ (j : Nat) (h : j < s.size), j < k + 1 → chB k s[k] = true → chB j s[j] = true) := Lib.hid fun j h hj hc => by
          rcases Nat.lt_or_ge j k with h' | h'
          · exact Ha.out j h h'
          · obtain rfl : j = k := by omega
            exact hc
        rcases hcl with ⟨a1, a2⟩ | ⟨a1, a2⟩ | (⟨a3, a1, a2⟩ | ⟨a3, a1, a2⟩) | hno
        · have hc := Lib.hid ((chB_iff (k := k) (c := s[k])).2 (by omega))
          have hb : ((s[k].toNat : Int) == 95) = false := by simp; omega
          go_wp2
          go_round
          case rel => exact ⟨k + 1, by omega, by go_num, fun j h hj => hnx.out j h hj hc.out⟩
          case measure => simp [intOf]; omega
        · have hc := Lib.hid ((chB_iff (k := k) (c := s[k])).2 (by omega))
          have hb : ((s[k].toNat : Int) == 95) = false := by simp; omega
          go_wp2
          go_round
          case rel => exact ⟨k + 1, by omega, by go_num, fun j h hj => hnx.out j h hj hc.out⟩
          case measure => simp [intOf]; omega
        · have hc := Lib.hid ((chB_iff (k := k) (c := s[k])).2 (by omega))
          have hb : ((s[k].toNat : Int) == 95) = true := by simp; omega
          have hz : ((k : Int) == 0) = false := by simp; omega
          go_wp2
          go_round
          case rel => exact ⟨k + 1, by omega, by go_num, fun j h hj => hnx.out j h hj hc.out⟩
          case measure => simp [intOf]; omega
        · have hc := Lib.hid ((chB_iff (k := k) (c := s[k])).2 (by omega))
          have hb : ((s[k].toNat : Int) == 95) = false := by simp; omega
          have hz : ((k : Int) == 0) = false := by simp; omega
          go_wp2
          go_round
          case rel => exact ⟨k + 1, by omega, by go_num, fun j h hj => hnx.out j h hj hc.out⟩
          case measure => simp [intOf]; omega
        have hn := Lib.hid (nameB_no k hlt (by simpa using hno))
        rw [chB_iff] at hno
        have hcs : ((s[k].toNat : Int) < 65 ∧ k = 0) ∨ ((s[k].toNat : Int) < 48 ∧ 0 < k) ∨ (57 < (s[k].toNat : Int) ∧ (s[k].toNat : Int) < 65 ∧ 0 < k) ∨ (90 < (s[k].toNat : Int) ∧ (s[k].toNat : Int) < 97 ∧ k = 0) ∨
            (90 < (s[k].toNat : Int) ∧ (s[k].toNat : Int) < 95 ∧ 0 < k) ∨ (95 < (s[k].toNat : Int) ∧ (s[k].toNat : Int) < 97 ∧ 0 < k) ∨ (122 < (s[k].toNat : Int) ∧ k = 0) ∨ (122 < (s[k].toNat : Int) ∧ 0 < k) := by omega
        clear hno
        rcases hcs with ⟨a1, a3⟩ | ⟨a1, a3⟩ | ⟨a1, a2, a3⟩ | ⟨a1, a2, a3⟩ | ⟨a1, a2, a3⟩ | ⟨a1, a2, a3⟩ | ⟨a1, a3⟩ | ⟨a1, a3⟩
        all_goals
          try subst a3
          try have hb : ((s[k].toNat : Int) == 95) = false := by simp; omega
          try have hz : ((k : Int) == 0) = false := by simp; omega
          try have hz : ((k : Int) == 0) = false := by simp; omega
          go_wp2
          all_goals first | (go_ret; exact ⟨ret_bool (by rw [hn.out]), rfl⟩) | (exfalso; rename_i hx; simp at hx; omega)
      · have hn := Lib.hid (nameB_yes h1 h2 (fun j h => Ha.out j h (by omega)))
        go_wp2
        go_ret
        exact ⟨ret_bool (by rw [hn.out]), rfl⟩
  · have hn := Lib.hid (nameB_len h0)
    by_cases h1 : 1 ≤ s.size
    · have h2 : 24 < s.size := by omega
      replace h00 := h00 h1
      go_wp2
      go_ret
      exact ⟨ret_bool (by rw [hn.out]), rfl⟩
    · have h3 : ((s.size : Int) == 0) = true := beq_iff_eq.2 (by omega)
      clear h00
      go_wp2
      go_ret
      exact ⟨ret_bool (by rw [hn.out]), rfl⟩

theorem rvar_spec (s : ByteArray) (h : ¬ (2 < s.size ∧ hasR s = true)) : varB s = nameB s := by
  rw [varB_unR]
  unfold unR
  split
  · rename_i hr
    obtain ⟨cs, hc⟩ := (hasR_iff s).1 hr
    have hs : s.size ≤ 2 := by simp only [hr, and_true] at h; omega
    have hl := Lib.size_eq s
    rw [hc] at hl
    simp only [List.length_cons] at hl
    obtain rfl : cs = [] := List.eq_nil_of_length_eq_zero (by omega)
    have h1 : nameB s = false := by unfold nameB; rw [hc]; decide
    rw [h1, nameB, Lib.extract_to_end, hc]
    rfl
  · rfl
theorem rvariable_calls (s : ByteArray) (w : World) (hs : s.size ≤ 140737488355328) : Calls Tryd.prog 60 #[.string s] w fun e w' => e = .returned (.bool (varB s)) ∧ w = w' := by
  by_cases h2 : 2 < s.size
  · cases hr : hasR s with
    | true =>
      have hv : Hid (varB s = nameB (s.extract 2 s.size)) := by show _ = _; rw [varB_unR, unR, if_pos hr]
      simp only [hasR, Bool.and_eq_true] at hr
      have hr2 := hr.2
      go_enter Tryd.func60, Tryd.ntmps60
      go_wp2_with (go_at_call 95; refine (rname_calls _ _ (by simp; omega)).mono ?_; rintro e w' ⟨rfl, rfl⟩)
      go_ret
      exact ⟨ret_bool hv.out.symm, rfl⟩
    | false =>
      have hv : Hid (varB s = nameB s) := by show _ = _; exact rvar_spec s (by simp [hr])
      have hr2 : ((s.extract 0 2).toList == [114, 46]) = false := by simpa [hasR, show 2 ≤ s.size by omega] using hr
      go_enter Tryd.func60, Tryd.ntmps60
      go_wp2_with (go_at_call 95; refine (rname_calls _ _ hs).mono ?_; rintro e w' ⟨rfl, rfl⟩)
      go_ret
      exact ⟨ret_bool hv.out.symm, rfl⟩
  · have hv : Hid (varB s = nameB s) := by show _ = _; exact rvar_spec s (by simp [h2])
    go_enter Tryd.func60, Tryd.ntmps60
    go_wp2_with (go_at_call 95; refine (rname_calls _ _ hs).mono ?_; rintro e w' ⟨rfl, rfl⟩)
    go_ret
    exact ⟨ret_bool hv.out.symm, rfl⟩
end Go.Proofs.YthaocbfmdcmkkaaDoor.K
