/- The walks of layer 6: what is put for a byte, by definition and by the tables; for a word. -/
import Derived.Test.YtfinekmegiengaaW06b
namespace Go.Proofs.Ytfinekmegiengaa
open Go.RowKit Nep
set_option maxRecDepth 100000

theorem bit06 (b i : Nat) (hb : b < 256) (hi : i < 1000) (w : World) :
    Calls Try.prog 98 #[.int .u8 b, .int .i64 i] w (RetP (.int .i64 (bt8 b i)) w) := by
  obtain ⟨m, hm⟩ : ∃ m, m = i % 8 := ⟨_, rfl⟩
  have hm8 : m < 8 := by omega
  have hm2 : (i : Int) % 8 = m := by omega
  have HM := Lib.hid hm
  clear hm
  go_enter Try.func98, Try.ntmps98
  go_wp2
  go_loop [5, 6] (fun m' j => ∃ k x : Nat, k ≤ m ∧ x < 256 ∧ j = .int .i64 k ∧ m' = .int .i64 x ∧ Hid (x = b / 2 ^ k)) (fun _ j => m - (intOf j).toNat)
  case atStart => exact ⟨0, b, Nat.zero_le _, hb, rfl, by go_num, by show _ = _; simp⟩
  case round =>
    obtain ⟨k, x, hk, hx, rfl, rfl, hxe⟩ := hrel
    by_cases hlt : k < m
    · go_wp2
      go_round
      case rel => exact ⟨k + 1, x / 2, by omega, by omega, by go_num, by go_num, by show _ = _; rw [div_pow_succ, ← hxe.out]⟩
      case measure => simp [intOf]; omega
    · go_wp2
      go_ret
      obtain rfl : k = m := by omega
      exact RetP.mk (val_int (by unfold bt8 bitN; rw [← HM.out, ← hxe.out]; omega))

theorem sub06 (a : Nat) (ha : a < 256) (w : World) :
    Calls Try.prog 30 #[.int .u8 a] w (RetP (.int .u8 (rsub a)) w) := by
  obtain ⟨v, hv⟩ : ∃ v, v = rinv a := ⟨_, rfl⟩
  have hv8 := rinv_lt a
  rw [← hv] at hv8
  have C0 := fun w => hv ▸ inv05 a ha w
  have HV := Lib.hid hv
  clear hv
  go_enter Try.func30, Try.ntmps30
  go_wp2_with (first | (go_at_call 97; refine (C0 _).mono ?_; rintro e w' ⟨rfl, rfl⟩))
  go_loop [4, 5, 6] (fun o p j => ∃ k : Nat, k ≤ 8 ∧ j = .int .i64 k ∧ p = .int .i64 (pw k) ∧ o = .int .i64 (subS v k)) (fun _ _ j => 8 - (intOf j).toNat)
  case atStart => exact ⟨0, by omega, rfl, rfl, rfl⟩
  case round =>
    obtain ⟨k, hk, rfl, rfl, rfl⟩ := hrel
    have hp : pw k ≤ 256 := pw_le k 8 hk
    have hs := subS_lt v k
    by_cases hlt : k < 8
    · have nm : ∀ n : Nat, ∃ b, b = n := fun n => ⟨_, rfl⟩
      obtain ⟨b0, e0⟩ := nm (bt8 v k)
      obtain ⟨b4, e4⟩ := nm (bt8 v (k + 4))
      obtain ⟨b5, e5⟩ := nm (bt8 v (k + 5))
      obtain ⟨b6, e6⟩ := nm (bt8 v (k + 6))
      obtain ⟨b7, e7⟩ := nm (bt8 v (k + 7))
      obtain ⟨b9, e9⟩ := nm (bt8 99 k)
      obtain ⟨x1, f1⟩ := nm (b0 ^^^ b4)
      obtain ⟨x2, f2⟩ := nm (x1 ^^^ b5)
      obtain ⟨x3, f3⟩ := nm (x2 ^^^ b6)
      obtain ⟨x4, f4⟩ := nm (x3 ^^^ b7)
      obtain ⟨x5, f5⟩ := nm (x4 ^^^ b9)
      have x2' : ∀ {x y : Nat}, x < 2 → y < 2 → x ^^^ y < 2 := fun h k => Nat.xor_lt_two_pow (n := 1) h k
      have l0 : b0 < 2 := e0 ▸ bt8_lt _ _
      have l4 : b4 < 2 := e4 ▸ bt8_lt _ _
      have l5 : b5 < 2 := e5 ▸ bt8_lt _ _
      have l6 : b6 < 2 := e6 ▸ bt8_lt _ _
      have l7 : b7 < 2 := e7 ▸ bt8_lt _ _
      have l9 : b9 < 2 := e9 ▸ bt8_lt _ _
      have m1 : x1 < 2 := f1 ▸ x2' l0 l4
      have m2 : x2 < 2 := f2 ▸ x2' m1 l5
      have m3 : x3 < 2 := f3 ▸ x2' m2 l6
      have m4 : x4 < 2 := f4 ▸ x2' m3 l7
      have m5 : x5 < 2 := f5 ▸ x2' m4 l9
      have h5 : subBit v k = x5 := by rw [f5, f4, f3, f2, f1, e0, e4, e5, e6, e7, e9]; rfl
      have g1 : bits .xor .i64 (b0 : Int) (b4 : Int) = x1 := f1 ▸ i64_xor_nat b0 b4 (by omega) (by omega)
      have g2 : bits .xor .i64 (x1 : Int) (b5 : Int) = x2 := f2 ▸ i64_xor_nat x1 b5 (by omega) (by omega)
      have g3 : bits .xor .i64 (x2 : Int) (b6 : Int) = x3 := f3 ▸ i64_xor_nat x2 b6 (by omega) (by omega)
      have g4 : bits .xor .i64 (x3 : Int) (b7 : Int) = x4 := f4 ▸ i64_xor_nat x3 b7 (by omega) (by omega)
      have g5 : bits .xor .i64 (x4 : Int) (b9 : Int) = x5 := f5 ▸ i64_xor_nat x4 b9 (by omega) (by omega)
      have D0 := fun w => e0 ▸ bit06 v k hv8 (by omega) w
      have D4 := fun w => e4 ▸ bit06 v (k + 4) hv8 (by omega) w
      have D5 := fun w => e5 ▸ bit06 v (k + 5) hv8 (by omega) w
      have D6 := fun w => e6 ▸ bit06 v (k + 6) hv8 (by omega) w
      have D7 := fun w => e7 ▸ bit06 v (k + 7) hv8 (by omega) w
      have D9 := fun w => e9 ▸ bit06 99 k (by omega) (by omega) w
      rw [show ((k + 4 : Nat) : Int) = (k : Int) + 4 from by omega] at D4
      rw [show ((k + 5 : Nat) : Int) = (k : Int) + 5 from by omega] at D5
      rw [show ((k + 6 : Nat) : Int) = (k : Int) + 6 from by omega] at D6
      rw [show ((k + 7 : Nat) : Int) = (k : Int) + 7 from by omega] at D7
      rw [show ((99 : Nat) : Int) = 99 from rfl] at D9
      have H5 := Lib.hid h5
      have hpx : pw k * x5 ≤ 256 := by
        have := Nat.mul_le_mul hp (show x5 ≤ 1 by omega)
        omega
      have hpx' : (pw k : Int) * (x5 : Int) ≤ 256 := by rw [← Int.natCast_mul]; omega
      have hpx'' : 0 ≤ (pw k : Int) * (x5 : Int) := by rw [← Int.natCast_mul]; omega
      clear h5 e0 e4 e5 e6 e7 e9 f1 f2 f3 f4 f5 C0 nm x2' hpx
      go_wp2_with (first | (go_at_call 98; first | (with_reducible refine (D0 _).mono ?_) | (with_reducible refine (D4 _).mono ?_) | (with_reducible refine (D5 _).mono ?_) | (with_reducible refine (D6 _).mono ?_) | (with_reducible refine (D7 _).mono ?_) | (with_reducible refine (D9 _).mono ?_)); (rintro e w' ⟨rfl, rfl⟩))
      go_round
      case rel => exact ⟨k + 1, by omega, by go_num, by rw [pw_succ]; go_num, by rw [subS_succ, H5.out]; exact val_int (by simp)⟩
      case measure => simp [intOf]; omega
    · go_wp2
      go_ret
      obtain rfl : k = 8 := by omega
      exact RetP.mk (val_int (by unfold rsub; rw [← HV.out]; omega))

end Go.Proofs.Ytfinekmegiengaa
