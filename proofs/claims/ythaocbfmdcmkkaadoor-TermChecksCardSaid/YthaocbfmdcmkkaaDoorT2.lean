import Derived.Test.YthaocbfmdcmkkaaDoorT1
import Derived.LoopTactic
set_option linter.unusedVariables false
namespace Go.Proofs.YthaocbfmdcmkkaaDoor.K
open Go.RowKit

def chB (k : Nat) (c : UInt8) : Bool := letterB c || (decide (k ≠ 0) && otherB c)
theorem nameL_iff (cs : List UInt8) : nameL cs = true ↔ 1 ≤ cs.length ∧ cs.length ≤ 24 ∧ ∀ k (h : k < cs.length), chB k cs[k] = true := by
  cases cs with
  | nil => simp [nameL]
  | cons c cs =>
    simp only [nameL, Bool.and_eq_true, List.all_eq_true, decide_eq_true_eq, List.length_cons]
    constructor
    · rintro ⟨⟨h1, h2⟩, h3⟩
      refine ⟨by omega, by omega, fun k hk => ?_⟩
      cases k with
      | zero => simp [chB, h1]
      | succ k => have := h2 cs[k] (List.getElem_mem _); simpa [chB] using this
    · rintro ⟨_, h2, h3⟩
      refine ⟨⟨?_, fun x hx => ?_⟩, by omega⟩
      · have := h3 0 (by simp); simpa [chB] using this
      · obtain ⟨k, hk, rfl⟩ := List.getElem_of_mem hx
        have := h3 (k + 1) (by simpa using hk); simpa [chB] using this

theorem chB_iff {k : Nat} {c : UInt8} : chB k c = true ↔ (97 ≤ (c.toNat : Int) ∧ (c.toNat : Int) ≤ 122) ∨ (65 ≤ (c.toNat : Int) ∧ (c.toNat : Int) ≤ 90) ∨ (k ≠ 0 ∧ ((c.toNat : Int) = 95 ∨ (48 ≤ (c.toNat : Int) ∧ (c.toNat : Int) ≤ 57))) := by
  have h95 : c = 95 ↔ c.toNat = 95 := ⟨fun h => by rw [h]; rfl, fun h => UInt8.toNat_inj.1 h⟩
  simp only [chB, letterB, otherB, Bool.or_eq_true, Bool.and_eq_true, decide_eq_true_eq, beq_iff_eq, h95]
  omega
theorem nameB_yes {s : ByteArray} (h1 : 1 ≤ s.size) (h2 : s.size ≤ 24) (h : ∀ j (h : j < s.size), chB j s[j] = true) : nameB s = true := by
  refine (nameL_iff _).2 ⟨by simpa using h1, by simpa using h2, fun k hk => ?_⟩
  exact h k (by simpa using hk)
theorem nameB_no {s : ByteArray} (k : Nat) (hk : k < s.size) (h : chB k s[k] = false) : nameB s = false := by
  cases hb : nameB s with
  | false => rfl
  | true =>
    obtain ⟨_, _, h3⟩ := (nameL_iff _).1 hb
    have := h3 k (by simpa using hk)
    rw [show s.data.toList[k]'(by simpa using hk) = s[k] from rfl, h] at this
    cases this
theorem nameB_len {s : ByteArray} (h : ¬ (1 ≤ s.size ∧ s.size ≤ 24)) : nameB s = false := by
  cases hb : nameB s with
  | false => rfl
  | true =>
    obtain ⟨h1, h2, _⟩ := (nameL_iff _).1 hb
    exact (h ⟨by simpa using h1, by simpa using h2⟩).elim

set_option maxHeartbeats 1000000 in
theorem name_calls (s : ByteArray) (w : World) (hs : s.size ≤ 140737488355328) : Calls Tryd.prog 89 #[.string s] w fun e w' => e = .returned (.bool (nameB s)) ∧ w = w' := by
  go_enter Tryd.func89, Tryd.ntmps89
  by_cases h0 : 1 ≤ s.size ∧ s.size ≤ 24
  · obtain ⟨h1, h2⟩ := h0
    go_wp2
    go_loop [16, 3, 4, 5] (fun i _ _ _ => ∃ k : Nat, k ≤ s.size ∧ i = .int .i64 k ∧ ∀ j (h : j < s.size), j < k → chB j s[j] = true) (fun i _ _ _ => s.size - (intOf i).toNat)
    case atStart => exact ⟨0, by omega, rfl, by omega⟩
    case round =>
      obtain ⟨k, hk, rfl, ha⟩ := hrel
      have Ha := Lib.hid ha
      clear ha
      by_cases hlt : k < s.size
      · have hx0 : 0 ≤ (s[k].toNat : Int) := by omega
        have hcl : (97 ≤ (s[k].toNat : Int) ∧ (s[k].toNat : Int) ≤ 122) ∨ (65 ≤ (s[k].toNat : Int) ∧ (s[k].toNat : Int) ≤ 90) ∨ ((0 < k ∧ 95 ≤ (s[k].toNat : Int) ∧ (s[k].toNat : Int) ≤ 95) ∨ (0 < k ∧ 48 ≤ (s[k].toNat : Int) ∧ (s[k].toNat : Int) ≤ 57)) ∨ ¬ chB k s[k] = true := by
          rw [chB_iff]; omega
        have hnx : Hid (∀ (j : Nat) (h : j < s.size), j < k + 1 → chB k s[k] = true → chB j s[j] = true) := Lib.hid fun j h hj hc => by
          rcases Nat.lt_or_ge j k with h' | h'
          · exact Ha.out j h h'
          · obtain rfl : j = k := by omega
            exact hc
        rcases hcl with ⟨a1, a2⟩ | ⟨a1, a2⟩ | (⟨a3, a1, a2⟩ | ⟨a3, a1, a2⟩) | hno
        · have hc := Lib.hid ((chB_iff (k := k) (c := s[k])).2 (by omega))
          go_wp2
          go_round
          case rel => exact ⟨k + 1, by omega, by go_num, fun j h hj => hnx.out j h hj hc.out⟩
          case measure => simp [intOf]; omega
        · have hc := Lib.hid ((chB_iff (k := k) (c := s[k])).2 (by omega))
          go_wp2
          go_round
          case rel => exact ⟨k + 1, by omega, by go_num, fun j h hj => hnx.out j h hj hc.out⟩
          case measure => simp [intOf]; omega
        · have hc := Lib.hid ((chB_iff (k := k) (c := s[k])).2 (by omega))
          have hb : ((s[k].toNat : Int) != 95) = false := by simp; omega
          have hz : ((k : Int) == 0) = false := by simp; omega
          go_wp2
          go_round
          case rel => exact ⟨k + 1, by omega, by go_num, fun j h hj => hnx.out j h hj hc.out⟩
          case measure => simp [intOf]; omega
        · have hc := Lib.hid ((chB_iff (k := k) (c := s[k])).2 (by omega))
          have hb : ((s[k].toNat : Int) != 95) = true := by simp; omega
          have hz : ((k : Int) == 0) = false := by simp; omega
          go_wp2
          go_round
          case rel => exact ⟨k + 1, by omega, by go_num, fun j h hj => hnx.out j h hj hc.out⟩
          case measure => simp [intOf]; omega
        have hn := Lib.hid (nameB_no k hlt (by simpa using hno))
        rw [chB_iff] at hno
        have hcs : ((s[k].toNat : Int) < 65 ∧ k = 0) ∨ ((s[k].toNat : Int) < 48 ∧ 0 < k) ∨ (57 < (s[k].toNat : Int) ∧ (s[k].toNat : Int) < 65 ∧ 0 < k) ∨ (90 < (s[k].toNat : Int) ∧ (s[k].toNat : Int) < 97 ∧ k = 0) ∨
            (90 < (s[k].toNat : Int) ∧ (s[k].toNat : Int) < 95 ∧ 0 < k) ∨ (95 < (s[k].toNat : Int) ∧ (s[k].toNat : Int) < 97 ∧ 0 < k) ∨ (122 < (s[k].toNat : Int) ∧ k = 0) ∨ (122 < (s[k].toNat : Int) ∧ 0 < k) := by omega
        clear hno
        rcases hcs with ⟨a1, a3⟩ | ⟨a1, a3⟩ | ⟨a1, a2, a3⟩ | ⟨a1, a2, a3⟩ | ⟨a1, a2, a3⟩ | ⟨a1, a2, a3⟩ | ⟨a1, a3⟩ | ⟨a1, a3⟩
        all_goals
          try subst a3
          try have hb : ((s[k].toNat : Int) != 95) = true := by simp; omega
          try have hz : ((k : Int) == 0) = false := by simp; omega
          try have hz : ((k : Int) == 0) = false := by simp; omega
          go_wp2
          all_goals first | (go_ret; exact ⟨ret_bool (by rw [hn.out]), rfl⟩) | (exfalso; rename_i hx; simp at hx; omega)
      · have hn := Lib.hid (nameB_yes h1 h2 (fun j h => Ha.out j h (by omega)))
        go_wp2
        go_ret
        exact ⟨ret_bool (by rw [hn.out]), rfl⟩
  · have hn := Lib.hid (nameB_len h0)
    by_cases h1 : 1 ≤ s.size
    · have h2 : 24 < s.size := by omega
      go_wp2
      go_ret
      exact ⟨ret_bool (by rw [hn.out]), rfl⟩
    · go_wp2
      go_ret
      exact ⟨ret_bool (by rw [hn.out]), rfl⟩
end Go.Proofs.YthaocbfmdcmkkaaDoor.K
