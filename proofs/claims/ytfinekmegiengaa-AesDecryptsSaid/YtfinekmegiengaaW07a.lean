/- The walks of layers 1, 5 and 7: the field's functions, numbers of bytes, a word turned. -/
import Derived.Test.YtfinekmegiengaaMem3
import Derived.Test.YtfinekmegiengaaPlainC
import Derived.Test.YtfinekmegiengaaW06b
import Derived.Test.YtfinekmegiengaaW06d
import Derived.Outline
namespace Go.Proofs.Ytfinekmegiengaa
open Go.RowKit Nep
set_option maxRecDepth 100000
set_option linter.unusedVariables false

theorem times_calls (a : Nat) {A : Int} (hA : A = a) (ha : a < 256) (w : World) : Calls Try.prog 169 #[.int .u8 A] w (RetP (.int .u8 (xt a)) w) := by
  subst hA
  by_cases h : 128 ≤ a
  · have hx := u8_xor_nat (a * 2 % 256) 27 (by omega) (by omega)
    have e : xt a = (a * 2 % 256) ^^^ 27 := if_pos h
    have e1 : ((a * 2 % 256 : Nat) : Int) = (a : Int) * 2 % 256 := by omega
    rw [e1, show ((27 : Nat) : Int) = 27 from rfl, ← e] at hx
    clear e e1
    go_enter Try.func169, Try.ntmps169
    go_wp2
    go_ret
    exact RetP.mk rfl
  · have e : xt a = a * 2 % 256 := if_neg h
    have E := Lib.hid e
    clear e
    go_enter Try.func169, Try.ntmps169
    go_wp2
    go_ret
    exact RetP.mk (val_int (by rw [E.out]; omega))

theorem fmul_calls (a b : Nat) {A B : Int} (hA : A = a) (hB : B = b) (ha : a < 256) (hb : b < 256) (w : World) : Calls Try.prog 147 #[.int .u8 A, .int .u8 B] w (RetP (.int .u8 (fmul a b)) w) := by
  subst hA hB
  obtain ⟨r, hr⟩ : ∃ r, r = fmul a b := ⟨_, rfl⟩
  have HR := Lib.hid hr
  rw [← hr]
  clear hr
  go_enter Try.func147, Try.ntmps147
  go_wp2
  go_loop [0, 1, 5] (fun x y o => ∃ n a1 b1 o1 : Nat, b1 < 2 ^ n ∧ n ≤ 8 ∧ a1 < 256 ∧ b1 < 256 ∧ o1 < 256 ∧ x = .int .u8 a1 ∧ y = .int .u8 b1 ∧ o = .int .u8 o1 ∧ Hid (r = fmulL n a1 b1 o1)) (fun _ y _ => (intOf y).toNat)
  case atStart => exact ⟨8, a, b, 0, hb, by omega, ha, hb, by omega, rfl, rfl, rfl, HR.out⟩
  case round =>
    obtain ⟨n, a1, b1, o1, h1, h2, h3, h4, h5, rfl, rfl, rfl, hh⟩ := hrel
    by_cases hz : b1 = 0
    · subst hz
      have hE := hh.out
      rw [fmulL_zero] at hE
      have HE := Lib.hid hE
      clear hE
      go_wp2
      go_ret
      exact RetP.mk (val_int (by rw [HE.out]))
    · obtain ⟨m, rfl⟩ : ∃ m, n = m + 1 := ⟨n - 1, by
        cases n with
        | zero => simp at h1; omega
        | succ n => rfl⟩
      have hE := hh.out
      rw [fmulL_step _ _ _ _ hz] at hE
      have hb2 : b1 / 2 < 2 ^ m := by rw [Nat.pow_succ] at h1; omega
      have hx := xt_lt a1
      have hm := u8_and_nat b1 1 h4 (by omega)
      rw [nat_mask1, show ((1 : Nat) : Int) = 1 from rfl] at hm
      have hnz : ((b1 : Int) != 0) = true := by simp; omega
      have hsh : ((b1 : Int) / 2) = ((b1 / 2 : Nat) : Int) := by omega
      by_cases hodd : b1 % 2 = 1
      · rw [if_pos hodd] at hE
        rw [hodd] at hm
        have hxo := u8_xor_nat o1 a1 h5 h3
        have ho := Nat.xor_lt_two_pow (n := 8) h5 h3
        have HE := Lib.hid hE
        clear hE hsh
        go_wp2_with (first | (go_at_call 169; refine (times_calls a1 rfl h3 _).mono ?_; rintro e w' ⟨rfl, rfl⟩))
        go_round
        case rel => exact ⟨m, xt a1, b1 / 2, o1 ^^^ a1, hb2, by omega, hx, by omega, ho, rfl, by go_num, rfl, HE.out⟩
        case measure => simp [intOf]; omega
      · rw [if_neg hodd] at hE
        rw [show b1 % 2 = 0 from by omega] at hm
        have HE := Lib.hid hE
        clear hE hsh
        go_wp2_with (first | (go_at_call 169; refine (times_calls a1 rfl h3 _).mono ?_; rintro e w' ⟨rfl, rfl⟩))
        go_round
        case rel => exact ⟨m, xt a1, b1 / 2, o1, hb2, by omega, hx, by omega, h5, rfl, by go_num, rfl, HE.out⟩
        case measure => simp [intOf]; omega

theorem fpow_calls (a n : Nat) {A N : Int} (hA : A = a) (hN : N = n) (ha : a < 256) (h0 : 0 < n) (hn : n < 256) (w : World) : Calls Try.prog 102 #[.int .u8 A, .int .i64 N] w (RetP (.int .u8 (fpow a n)) w) := by
  subst hA hN
  obtain ⟨r, hr⟩ : ∃ r, r = fpow a n := ⟨_, rfl⟩
  have HR := Lib.hid hr
  rw [← hr]
  clear hr
  have g1 : decide (n = 0) = false := by simp; omega
  have g2 : decide ((255 : Int) < (n : Int)) = false := by simp; omega
  go_enter Try.func102, Try.ntmps102
  go_wp2
  go_loop [0, 1, 5] (fun x y o => ∃ k a1 n1 o1 : Nat, n1 < 2 ^ k ∧ n1 < 256 ∧ a1 < 256 ∧ o1 < 256 ∧ x = .int .u8 a1 ∧ y = .int .i64 n1 ∧ o = .int .u8 o1 ∧ Hid (r = fpowL k a1 n1 o1)) (fun _ y _ => (intOf y).toNat)
  case atStart => exact ⟨8, a, n, 1, hn, hn, ha, by omega, rfl, rfl, rfl, HR.out⟩
  case round =>
    obtain ⟨k, a1, n1, o1, h1, h2, h3, h5, rfl, rfl, rfl, hh⟩ := hrel
    by_cases hz : n1 = 0
    · subst hz
      have hE := hh.out
      rw [fpowL_zero] at hE
      have HE := Lib.hid hE
      clear hE
      go_wp2
      go_ret
      exact RetP.mk (val_int (by rw [HE.out]))
    · obtain ⟨m, rfl⟩ : ∃ m, k = m + 1 := ⟨k - 1, by
        cases k with
        | zero => simp at h1; omega
        | succ n => rfl⟩
      have hE := hh.out
      rw [fpowL_step _ _ _ _ hz] at hE
      have hb2 : n1 / 2 < 2 ^ m := by rw [Nat.pow_succ] at h1; omega
      have hsq := fmul_lt a1 a1 h3
      have hpos : 0 < n1 := by omega
      have hm := (bits_nat .i64 16 (by decide) (fun n h0 h1 => by rw [IntKind.wrap_i64]; omega) n1 1 (by omega) (by omega)).1
      rw [nat_mask1, show ((1 : Nat) : Int) = 1 from rfl] at hm
      have C2 : ∀ w, Calls Try.prog 147 #[.int .u8 a1, .int .u8 a1] w (RetP (.int .u8 (fmul a1 a1)) w) := fun w => fmul_calls a1 a1 rfl rfl h3 h3 w
      have C1 : ∀ w, Calls Try.prog 147 #[.int .u8 o1, .int .u8 a1] w (RetP (.int .u8 (fmul o1 a1)) w) := fun w => fmul_calls o1 a1 rfl rfl h5 h3 w
      by_cases hodd : n1 % 2 = 1
      · rw [if_pos hodd] at hE
        rw [hodd] at hm
        have ho := fmul_lt o1 a1 h5
        have HE := Lib.hid hE
        clear hE
        by_cases hoa : o1 = a1
        · subst hoa
          go_wp2_with (first | (go_at_call 147; (with_reducible refine (C1 _).mono ?_); rintro e w' ⟨rfl, rfl⟩))
          go_round
          case rel => exact ⟨m, fmul o1 o1, n1 / 2, fmul o1 o1, hb2, by omega, hsq, ho, rfl, by go_num, rfl, HE.out⟩
          case measure => simp [intOf]; omega
        · go_wp2_with (first | (go_at_call 147; first | (with_reducible refine (C1 _).mono ?_) | (with_reducible refine (C2 _).mono ?_)); (rintro e w' ⟨rfl, rfl⟩))
          go_round
          case rel => exact ⟨m, fmul a1 a1, n1 / 2, fmul o1 a1, hb2, by omega, hsq, ho, rfl, by go_num, rfl, HE.out⟩
          case measure => simp [intOf]; omega
      · rw [if_neg hodd] at hE
        rw [show n1 % 2 = 0 from by omega] at hm
        have HE := Lib.hid hE
        clear hE
        go_wp2_with (first | (go_at_call 147; (with_reducible refine (C2 _).mono ?_); rintro e w' ⟨rfl, rfl⟩))
        go_round
        case rel => exact ⟨m, fmul a1 a1, n1 / 2, o1, hb2, by omega, hsq, h5, rfl, by go_num, rfl, HE.out⟩
        case measure => simp [intOf]; omega

theorem fpow_zero (a : Nat) {A N : Int} (hA : A = a) (hN : N = 0) (w : World) : Calls Try.prog 102 #[.int .u8 A, .int .i64 N] w (RetP (.int .u8 1) w) := by
  subst hA hN
  go_enter Try.func102, Try.ntmps102
  go_wp2
  go_ret
  exact RetP.mk rfl
/-- a power of two, small -/
theorem fpow2_calls (n : Nat) {A N : Int} (hA : A = 2) (hN : N = n) (hn : n < 7) (w : World) : Calls Try.prog 102 #[.int .u8 A, .int .i64 N] w (RetP (.int .u8 (pw n)) w) := by
  by_cases h : n = 0
  · subst h
    exact fpow_zero 2 hA hN w
  · have := fpow_calls 2 n hA hN (by omega) (by omega) (by omega) w
    rwa [fpow_two n hn] at this

theorem rpow_calls (n : Nat) {A N : Int} (hA : A = 2) (hN : N = n) (hn : n < 7) (w : World) : Calls Try.prog 104 #[.int .u8 A, .int .i64 N] w (RetP (.int .u8 (pw n)) w) := by
  subst hA hN
  have hp := rpow_two n hn
  have HP := Lib.hid hp
  clear hp
  have hlt : ∀ k, k < 7 → rpow 2 k < 256 := by decide +kernel
  go_enter Try.func104, Try.ntmps104
  go_wp2
  go_loop [5, 6] (fun o i => ∃ k : Nat, k ≤ n ∧ i = .int .i64 k ∧ o = .int .u8 (rpow 2 k)) (fun _ i => n - (intOf i).toNat)
  case atStart => exact ⟨0, by omega, rfl, rfl⟩
  case round =>
    obtain ⟨k, hk, rfl, rfl⟩ := hrel
    have hl := hlt k (by omega)
    clear hlt
    by_cases hkn : k < n
    · have C : ∀ w, Calls Try.prog 146 #[.int .u8 (rpow 2 k), .int .u8 2] w (RetP (.int .u8 (rpow 2 (k + 1))) w) := fun w => mul05 (rpow 2 k) 2 hl (by omega) w
      go_wp2_with (first | (go_at_call 146; (with_reducible refine (C _).mono ?_); rintro e w' ⟨rfl, rfl⟩))
      go_round
      case rel => exact ⟨k + 1, by omega, by go_num, rfl⟩
      case measure => simp [intOf]; omega
    · go_wp2_with fail
      go_ret
      obtain rfl : k = n := by omega
      exact RetP.mk (by rw [← HP.out]; rfl)

theorem rotl8_calls (x : Nat) {X : Int} (hX : X = x) (hx : x < 4294967296) (w : World) : Calls Try.prog 101 #[.int .u32 X, .int .i64 8] w (RetP (.int .u32 ((x % 16777216 * 256 + x / 16777216 : Nat) : Int)) w) := by
  subst hX
  obtain ⟨r, hr⟩ : ∃ r, r = x % 16777216 * 256 + x / 16777216 := ⟨_, rfl⟩
  have hj := u32_join (x % 16777216 * 256) (x / 16777216) 8 (X := (x : Int) * 256 % 4294967296) (Y := (x : Int) / 16777216) (by omega) (by omega) (by omega) (by omega) (by omega) (by omega)
  rw [← hr] at hj ⊢
  clear hr
  have hk : bits .and .u64 8 31 = 8 := by decide
  go_enter Try.func101, Try.ntmps101
  go_wp2
  go_ret
  exact RetP.mk rfl
end Go.Proofs.Ytfinekmegiengaa
