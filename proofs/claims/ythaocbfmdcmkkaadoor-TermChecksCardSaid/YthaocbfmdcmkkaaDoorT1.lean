/- Walks: package bits, the simple ones. -/
import Derived.Test.YthaocbfmdcmkkaaDoorSp2
import Derived.Test.YthaocbfmdcmkkaaDoorProg
set_option linter.unusedVariables false
namespace Go.Proofs.YthaocbfmdcmkkaaDoor.K
open Go.RowKit

theorem wideB_iff {x : Int} : wideB x = true ↔ 1 ≤ x ∧ x ≤ 64 := by simp [wideB]
theorem wideB_not {x : Int} : wideB x = false ↔ ¬ (1 ≤ x ∧ x ≤ 64) := by rw [← wideB_iff]; simp
theorem pow_mask (n : Nat) (h : n < 65) (h1 : 1 ≤ n) : (18446744073709551615 : Int) / 2 ^ (64 - n) = 2 ^ n - 1 := by
  have : ∀ n : Nat, n < 65 → 1 ≤ n → (18446744073709551615 : Int) / 2 ^ (64 - n) = 2 ^ n - 1 := by decide +kernel
  exact this n h h1
theorem maskI_eq {x : Int} (h1 : 1 ≤ x) (h2 : x ≤ 64) : (18446744073709551615 : Int) / 2 ^ (64 - x).toNat = maskI x := by
  obtain ⟨n, rfl⟩ := Int.eq_ofNat_of_zero_le (show 0 ≤ x by omega)
  have hw : wideB (n : Int) = true := wideB_iff.2 ⟨h1, h2⟩
  have := pow_mask n (by omega) (by omega)
  simp only [maskI, hw, if_true, Int.toNat_natCast]
  rw [← this]
  congr 2
  omega
theorem maskI_no {x : Int} (h : wideB x = false) : maskI x = 0 := by simp [maskI, h]

theorem wide_calls (x : Int) (w : World) : Calls Tryd.prog 87 #[.int .i64 x] w fun e w' => e = .returned (.bool (wideB x)) ∧ w = w' := by
  go_enter Tryd.func87, Tryd.ntmps87
  go_wp2
  · go_ret
    exact ⟨ret_bool (by simp [wideB, *]), rfl⟩
  · go_ret
    exact ⟨ret_bool (by simp [wideB]; omega), rfl⟩
theorem mask_calls (x : Int) (w : World) : Calls Tryd.prog 88 #[.int .i64 x] w fun e w' => e = .returned (.int .u64 (maskI x)) ∧ w = w' := by
  cases h : wideB x with
  | true =>
    obtain ⟨h1, h2⟩ := wideB_iff.1 h
    have hm := Lib.hid (maskI_eq h1 h2)
    go_enter Tryd.func88, Tryd.ntmps88
    go_wp2_with (go_at_call 87; refine (wide_calls _ _).mono ?_; rintro e w' ⟨rfl, rfl⟩)
    go_ret
    exact ⟨ret_int (by rw [← hm.out]), rfl⟩
  | false =>
    have hm := Lib.hid (maskI_no h)
    go_enter Tryd.func88, Tryd.ntmps88
    go_wp2_with (go_at_call 87; refine (wide_calls _ _).mono ?_; rintro e w' ⟨rfl, rfl⟩)
    go_ret
    exact ⟨ret_int (by rw [hm.out]), rfl⟩
theorem ok_calls (x y : Int) (w : World) : Calls Tryd.prog 55 #[.int .i64 x, .int .u64 y] w fun e w' => e = .returned (.bool (okB x y)) ∧ w = w' := by
  cases h : wideB x with
  | true =>
    go_enter Tryd.func55, Tryd.ntmps55
    go_wp2_with (first | (go_at_call 87; refine (wide_calls _ _).mono ?_; rintro e w' ⟨rfl, rfl⟩) | (go_at_call 88; refine (mask_calls _ _).mono ?_; rintro e w' ⟨rfl, rfl⟩))
    go_ret
    exact ⟨ret_bool (by simp [okB, h]), rfl⟩
  | false =>
    go_enter Tryd.func55, Tryd.ntmps55
    go_wp2_with (first | (go_at_call 87; refine (wide_calls _ _).mono ?_; rintro e w' ⟨rfl, rfl⟩) | (go_at_call 88; refine (mask_calls _ _).mono ?_; rintro e w' ⟨rfl, rfl⟩))
    go_ret
    exact ⟨ret_bool (by simp [okB, h]), rfl⟩
end Go.Proofs.YthaocbfmdcmkkaaDoor.K
