/- The walks of layers 5 (the reference's) and 6: the product, what gives 1, what is put for a byte. -/
import Derived.Test.YtfinekmegiengaaW06
namespace Go.Proofs.Ytfinekmegiengaa
open Go.RowKit Nep

theorem i64_xor_nat (a b : Nat) (ha : a < 4611686018427387904) (hb : b < 4611686018427387904) : bits .xor .i64 (a : Int) (b : Int) = ((a ^^^ b : Nat) : Int) := by
  have ha' : a % 2 ^ IntKind.i64.bits = a := Nat.mod_eq_of_lt (by simp only [IntKind.bits]; omega)
  have hb' : b % 2 ^ IntKind.i64.bits = b := Nat.mod_eq_of_lt (by simp only [IntKind.bits]; omega)
  have hx : a ^^^ b < 2 ^ 62 := Nat.xor_lt_two_pow (by omega) (by omega)
  simp only [bits, BitVec.ofInt_natCast, BitVec.toNat_xor, BitVec.toNat_ofNat, ha', hb']
  rw [IntKind.wrap_i64]
  omega

theorem mul05 (a b : Nat) (ha : a < 256) (hb : b < 256) (w : World) :
    Calls Try.prog 146 #[.int .u8 a, .int .u8 b] w (RetP (.int .u8 (rmul a b)) w) := by
  go_enter Try.func146, Try.ntmps146
  go_wp2
  go_loop [5, 6] (fun m j => ∃ k : Nat, k ≤ 8 ∧ j = .int .i64 k ∧ m = .int .i64 (mulA a b k)) (fun _ j => 8 - (intOf j).toNat)
  case atStart => exact ⟨0, by omega, rfl, rfl⟩
  case round =>
    obtain ⟨k, hk, rfl, rfl⟩ := hrel
    have hm := mulA_lt a b k ha hk
    by_cases hlt : k < 8
    · have hp : pw k ≤ 128 := pw_le k 7 (by omega)
      have hap : a * pw k < 65536 := by
        have := Nat.mul_le_mul (show a ≤ 255 by omega) hp
        omega
      have hx := i64_xor_nat (mulA a b k) (a * pw k) (by omega) (by omega)
      rw [Int.natCast_mul] at hx
      obtain ⟨bb, hbb⟩ : ∃ bb, bb = bitN b k := ⟨_, rfl⟩
      have hb2 := bitN_lt b k
      rw [← hbb] at hb2
      have C1 := fun w => hbb ▸ bit05 b k (by omega) (by omega) w
      have HB := Lib.hid hbb
      clear hbb
      by_cases h1 : bb = 1
      · have h1' : ((bb : Int) == 1) = true := by rw [h1]; rfl
        go_wp2_with (first | (go_at_call 167; refine (C1 _).mono ?_; rintro e w' ⟨rfl, rfl⟩) | (go_at_call 168; refine (power05 k (by omega) _).mono ?_; rintro e w' ⟨rfl, rfl⟩))
        go_round
        case rel => exact ⟨k + 1, by omega, by go_num, by rw [mulA_one (HB.out ▸ h1)]⟩
        case measure => simp [intOf]; omega
      · have h1' : ((bb : Int) == 1) = false := by simp; omega
        go_wp2_with (first | (go_at_call 167; refine (C1 _).mono ?_; rintro e w' ⟨rfl, rfl⟩))
        go_round
        case rel => exact ⟨k + 1, by omega, by go_num, by rw [mulA_nought (HB.out ▸ h1)]⟩
        case measure => simp [intOf]; omega
    · obtain rfl : k = 8 := by omega
      obtain ⟨p, hp⟩ : ∃ p, p = mulA a b 8 := ⟨_, rfl⟩
      rw [← hp] at hm
      have HP := Lib.hid hp
      rw [← hp]
      clear hp
      go_wp2
      go_loop [5, 7] (fun m j => ∃ k : Nat, k ≤ 7 ∧ j = .int .i64 ((14 - k : Nat) : Int) ∧ m = .int .i64 (redA p k)) (fun _ j => (intOf j).toNat)
      case atStart => exact ⟨0, by omega, rfl, rfl⟩
      case round =>
        obtain ⟨k, hk, hj, rfl⟩ := hrel
        have hr := redA_lt p k hm hk
        obtain ⟨j, hjk⟩ : ∃ j, j = 14 - k := ⟨_, rfl⟩
        rw [← hjk] at hj
        subst hj
        have hj1 : 7 ≤ j := by omega
        have hj2 : j ≤ 14 := by omega
        have hj3 : 8 ≤ j → k < 7 := by omega
        have hj4 : j = 7 → k = 7 := by omega
        have HJ := Lib.hid hjk
        clear hjk
        by_cases hlt : 8 ≤ j
        · have hp8 : pw (j - 8) ≤ 64 := pw_le (j - 8) 6 (by omega)
          have hx := i64_xor_nat (redA p k) (283 * pw (j - 8)) (by omega) (by omega)
          rw [Int.natCast_mul, show ((283 : Nat) : Int) = 283 from rfl] at hx
          obtain ⟨bb, hbb⟩ : ∃ bb, bb = bitN (redA p k) j := ⟨_, rfl⟩
          have hb2 := bitN_lt (redA p k) j
          rw [← hbb] at hb2
          have C1 := fun w => hbb ▸ bit05 (redA p k) j (by omega) (by omega) w
          have C2 : ∀ w, Calls Try.prog 168 #[.int .i64 ((j : Int) - 8)] w (RetP (.int .i64 (pw (j - 8))) w) := fun w => by
            have h := power05 (j - 8) (by omega) w
            rwa [show ((j - 8 : Nat) : Int) = (j : Int) - 8 from by omega] at h
          have HB := Lib.hid hbb
          clear hbb
          by_cases h1 : bb = 1
          · have h1' : ((bb : Int) == 1) = true := by rw [h1]; rfl
            go_wp2_with (first | (go_at_call 167; refine (C1 _).mono ?_; rintro e w' ⟨rfl, rfl⟩) | (go_at_call 168; refine (C2 _).mono ?_; rintro e w' ⟨rfl, rfl⟩))
            go_round
            case rel => exact ⟨k + 1, by omega, by have := HJ.out; go_num, by rw [redA_one (HJ.out ▸ HB.out ▸ h1), ← HJ.out]⟩
            case measure => simp [intOf]; omega
          · have h1' : ((bb : Int) == 1) = false := by simp; omega
            go_wp2_with (first | (go_at_call 167; refine (C1 _).mono ?_; rintro e w' ⟨rfl, rfl⟩))
            go_round
            case rel => exact ⟨k + 1, by omega, by have := HJ.out; go_num, by rw [redA_nought (HJ.out ▸ HB.out ▸ h1)]⟩
            case measure => simp [intOf]; omega
        · go_wp2
          go_ret
          obtain rfl : k = 7 := hj4 (by omega)
          exact RetP.mk (by unfold rmul; rw [← HP.out]; go_num)

set_option maxRecDepth 100000 in
theorem inv05 (a : Nat) (ha : a < 256) (w : World) :
    Calls Try.prog 97 #[.int .u8 a] w (RetP (.int .u8 (rinv a)) w) := by
  go_enter Try.func97, Try.ntmps97
  go_wp2
  go_loop [3] (fun j => ∃ k : Nat, 1 ≤ k ∧ k ≤ 256 ∧ j = .int .i64 k ∧ InvFrom a k) (fun j => 256 - (intOf j).toNat)
  case atStart => exact ⟨1, by omega, by omega, rfl, .first a⟩
  case round =>
    obtain ⟨k, hk1, hk2, rfl, hinv⟩ := hrel
    by_cases hlt : k < 256
    · obtain ⟨p, hp⟩ : ∃ p, p = rmul a k := ⟨_, rfl⟩
      have C1 := fun w => hp ▸ mul05 a k ha hlt w
      have HP := Lib.hid hp
      clear hp
      have hc : (k : Int) % 256 = k := by omega
      by_cases h1 : p = 1
      · have h1' : ((p : Int) == 1) = true := by rw [h1]; rfl
        go_wp2_with (first | (go_at_call 146; refine (C1 _).mono ?_; rintro e w' ⟨rfl, rfl⟩))
        go_ret
        refine RetP.mk (val_int ?_)
        rw [hinv.hit hlt (HP.out ▸ h1)]
      · have h1' : ((p : Int) == 1) = false := by simp; omega
        go_wp2_with (first | (go_at_call 146; refine (C1 _).mono ?_; rintro e w' ⟨rfl, rfl⟩))
        go_round
        case rel =>
          exact ⟨k + 1, by omega, by omega, by go_num, hinv.miss hlt (HP.out ▸ h1)⟩
        case measure => simp [intOf]; omega
    · go_wp2
      go_ret
      obtain rfl : k = 256 := by omega
      exact RetP.mk (val_int (by rw [hinv.none]; rfl))

end Go.Proofs.Ytfinekmegiengaa
