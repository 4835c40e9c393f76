/- The walks of layers 5 (the reference's) and 6. -/
import Derived.Test.YtfinekmegiengaaBase
import Derived.Test.YtfinekmegiengaaPlainA
import Derived.Outline
namespace Go.Proofs.Ytfinekmegiengaa
open Go.RowKit Nep

theorem div_pow_succ (n k : Nat) : n / 2 ^ (k+1) = n / 2^k / 2 := by
  rw [Nat.pow_succ, Nat.div_div_eq_div_mul]

theorem bit05 (n i : Nat) (hn : n < 4611686018427387904) (hi : i < 4611686018427387904) (w : World) :
    Calls Try.prog 167 #[.int .i64 n, .int .i64 i] w (RetP (.int .i64 (bitN n i)) w) := by
  go_enter Try.func167, Try.ntmps167
  go_wp2
  go_loop [0, 5] (fun m j => ∃ k x : Nat, k ≤ i ∧ x ≤ n ∧ j = .int .i64 k ∧ m = .int .i64 x ∧ Hid (x = n / 2 ^ k)) (fun _ j => i - (intOf j).toNat)
  case atStart => exact ⟨0, n, Nat.zero_le _, Nat.le_refl _, rfl, rfl, by show _ = _; simp⟩
  case round =>
    obtain ⟨k, x, hk, hx, rfl, rfl, hxe⟩ := hrel
    by_cases hlt : k < i
    · go_wp2
      go_round
      case rel => exact ⟨k + 1, x / 2, by omega, by omega, by go_num, by go_num, by show _ = _; rw [div_pow_succ, ← hxe.out]⟩
      case measure => simp [intOf]; omega
    · go_wp2
      go_ret
      obtain rfl : k = i := by omega
      exact RetP.mk (val_int (by unfold bitN; rw [← hxe.out]; omega))

theorem power05 (i : Nat) (hi : i < 60) (w : World) :
    Calls Try.prog 168 #[.int .i64 i] w (RetP (.int .i64 (pw i)) w) := by
  go_enter Try.func168, Try.ntmps168
  go_wp2
  go_loop [3, 4] (fun m j => ∃ k : Nat, k ≤ i ∧ j = .int .i64 k ∧ m = .int .i64 (pw k)) (fun _ j => i - (intOf j).toNat)
  case atStart => exact ⟨0, Nat.zero_le _, rfl, rfl⟩
  case round =>
    obtain ⟨k, hk, rfl, rfl⟩ := hrel
    have hp : pw k ≤ 1152921504606846976 := pw_le k 60 (by omega)
    by_cases hlt : k < i
    · go_wp2
      go_round
      case rel => exact ⟨k + 1, by omega, by go_num, by rw [pw_succ]; go_num⟩
      case measure => simp [intOf]; omega
    · go_wp2
      go_ret
      obtain rfl : k = i := by omega
      exact RetP.mk rfl

end Go.Proofs.Ytfinekmegiengaa
