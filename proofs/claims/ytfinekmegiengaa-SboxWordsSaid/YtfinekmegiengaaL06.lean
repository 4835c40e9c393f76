/- The walks of the laws SboxSubs and SboxWords. -/
import Derived.Test.YtfinekmegiengaaW06c
import Derived.Test.YtfinekmegiengaaW06d
import Derived.Test.YtfinekmegiengaaPlainB
namespace Go.Proofs.Ytfinekmegiengaa
open Go.RowKit Nep
set_option maxRecDepth 100000

theorem sboxSubs_walk (a : Nat) (ha : a < 256) (w : World) : Calls Try.prog 3 #[.int .u8 a] w (RetB (.bool true) w) := by
  obtain ⟨s, hs⟩ : ∃ s, s = sb a := ⟨_, rfl⟩
  obtain ⟨k, hk⟩ : ∃ k, k = bk a := ⟨_, rfl⟩
  have ls : s < 256 := hs ▸ sb_lt _
  have lk : k < 256 := hk ▸ bk_lt _
  have C1 : ∀ w, Calls Try.prog 29 #[.int .u8 a] w (RetB (.int .u8 s) w) := fun w => hs ▸ sub_calls a rfl ha w
  have C2 : ∀ w, Calls Try.prog 31 #[.int .u8 s] w (RetB (.int .u8 a) w) := fun w => by
    have h := back_calls s rfl ls w
    rwa [hs, bk_sb a ha, ← hs] at h
  have C3 : ∀ w, Calls Try.prog 31 #[.int .u8 a] w (RetB (.int .u8 k) w) := fun w => hk ▸ back_calls a rfl ha w
  have C4 : ∀ w, Calls Try.prog 29 #[.int .u8 k] w (RetB (.int .u8 a) w) := fun w => by
    have h := sub_calls k rfl lk w
    rwa [hk, sb_bk a ha, ← hk] at h
  have C5 : ∀ w, Calls Try.prog 30 #[.int .u8 a] w (RetP (.int .u8 s) w) := fun w => by
    have h := sub06 a ha w
    rwa [rsub_eq a ha, ← hs] at h
  have hne : ((s : Int) != (a : Int)) = true := by
    have := sb_ne a ha
    simp
    omega
  clear hs hk
  have B := Below.refl w.heap.size w
  go_enter Try.func3, Try.ntmps3
  go_wp2_with (first
    | (go_at_call 29; (first | (with_reducible refine (C1 _).mono ?_) | (with_reducible refine (C4 _).mono ?_)); rintro e w' ⟨rfl, hb⟩; replace B := B.trans (hb.mono B.size))
    | (go_at_call 31; (first | (with_reducible refine (C2 _).mono ?_) | (with_reducible refine (C3 _).mono ?_)); rintro e w' ⟨rfl, hb⟩; replace B := B.trans (hb.mono B.size))
    | (go_at_call 30; refine (C5 _).mono ?_; rintro e w' ⟨rfl, rfl⟩)
    | (go_at_call 32; refine (awake06 _).mono ?_; rintro e w' ⟨rfl, hb⟩; replace B := B.trans (hb.mono B.size)))
  go_ret
  exact RetB.mk rfl B

/-- the sum of the first bytes that are put for, each at its place -/
def accW (x : Nat) : Nat → Nat
  | 0 => 0
  | 1 => sb (x % 256)
  | 2 => sb (x / 256 % 256) * 256 + sb (x % 256)
  | 3 => sb (x / 65536 % 256) * 65536 + sb (x / 256 % 256) * 256 + sb (x % 256)
  | _ => wordS x
def plW : Nat → Nat
  | 0 => 1
  | 1 => 256
  | 2 => 65536
  | 3 => 16777216
  | _ => 0

theorem sub06_calls (a : Nat) {A : Int} (hA : A = a) (ha : a < 256) (w : World) :
    Calls Try.prog 30 #[.int .u8 A] w (RetP (.int .u8 (sb a)) w) := by
  subst hA
  have h := sub06 a ha w
  rwa [rsub_eq a ha] at h

theorem sboxWords_walk (x : Nat) (hx : x < 4294967296) (w : World) : Calls Try.prog 4 #[.int .u32 x] w (RetB (.bool true) w) := by
  go_enter Try.func4, Try.ntmps4
  go_wp2
  go_loop [3, 4, 5] (fun s p j => ∃ k : Nat, k ≤ 4 ∧ j = .int .i64 k ∧ p = .int .u32 (plW k) ∧ s = .int .u32 (accW x k)) (fun _ _ j => 4 - (intOf j).toNat)
  case atStart => exact ⟨0, by omega, rfl, rfl, rfl⟩
  case round =>
    obtain ⟨k, hk, rfl, rfl, rfl⟩ := hrel
    have l0 := sb_lt (x % 256)
    have l1 := sb_lt (x / 256 % 256)
    have l2 := sb_lt (x / 65536 % 256)
    have l3 := sb_lt (x / 16777216)
    rcases (show k = 0 ∨ k = 1 ∨ k = 2 ∨ k = 3 ∨ k = 4 from by omega) with rfl | rfl | rfl | rfl | rfl
    · have e : ((plW 0 : Nat) : Int) = 1 := rfl
      have C := fun w => sub06_calls (x % 256) (A := (x : Int) % 256) (by omega) (by omega) w
      go_wp2_with (first | (go_at_call 30; (with_reducible refine (C _).mono ?_); rintro e w' ⟨rfl, rfl⟩))
      go_round
      case rel => exact ⟨1, by omega, by go_num, rfl, val_int (by simp only [accW]; omega)⟩
      case measure => simp [intOf]
    · have e : ((plW 1 : Nat) : Int) = 256 := rfl
      have C := fun w => sub06_calls (x / 256 % 256) (A := (x : Int) / 256 % 256) (by omega) (by omega) w
      go_wp2_with (first | (go_at_call 30; (with_reducible refine (C _).mono ?_); rintro e w' ⟨rfl, rfl⟩))
      go_round
      case rel => exact ⟨2, by omega, by go_num, rfl, val_int (by simp only [accW]; omega)⟩
      case measure => simp [intOf]
    · have e : ((plW 2 : Nat) : Int) = 65536 := rfl
      have C := fun w => sub06_calls (x / 65536 % 256) (A := (x : Int) / 65536 % 256) (by omega) (by omega) w
      go_wp2_with (first | (go_at_call 30; (with_reducible refine (C _).mono ?_); rintro e w' ⟨rfl, rfl⟩))
      go_round
      case rel => exact ⟨3, by omega, by go_num, rfl, val_int (by simp only [accW]; omega)⟩
      case measure => simp [intOf]
    · have e : ((plW 3 : Nat) : Int) = 16777216 := rfl
      have C := fun w => sub06_calls (x / 16777216) (A := (x : Int) / 16777216 % 256) (by omega) (by omega) w
      go_wp2_with (first | (go_at_call 30; (with_reducible refine (C _).mono ?_); rintro e w' ⟨rfl, rfl⟩))
      go_round
      case rel => exact ⟨4, by omega, by go_num, rfl, val_int (by simp only [accW, wordS]; omega)⟩
      case measure => simp [intOf]
    · have B := Below.refl w.heap.size w
      have hw : ((wordS x : Nat) : Int) = ((accW x 4 : Nat) : Int) := rfl
      go_wp2_with (first | (go_at_call 33; refine (word_calls x rfl hx _).mono ?_; rintro e w' ⟨rfl, hb⟩; replace B := B.trans (hb.mono B.size)) | (go_at_call 32; refine (awake06 _).mono ?_; rintro e w' ⟨rfl, hb⟩; replace B := B.trans (hb.mono B.size)))
      go_ret
      exact RetB.mk rfl B
end Go.Proofs.Ytfinekmegiengaa
