/- The walks of layers 1 and 6 and of their references. -/
import Derived.Test.YtfinekmegiengaaMemA
import Derived.Test.YtfinekmegiengaaPlainA
import Derived.Outline
import Derived.Test.YtfinekmegiengaaPlnB
import Derived.Deep.RegionHeld3
/- The walks of layers 5 (the reference's) and 6. -/
namespace Go.Proofs.Ytfinekmegiengaa
open Go.RowKit Nep

theorem div_pow_succ (n k : Nat) : n / 2 ^ (k+1) = n / 2^k / 2 := by
  rw [Nat.pow_succ, Nat.div_div_eq_div_mul]

theorem bit05 (n i : Nat) (hn : n < 4611686018427387904) (hi : i < 4611686018427387904) (w : World) :
    Calls Try.prog 167 #[.int .i64 n, .int .i64 i] w (RetP (.int .i64 (bitN n i)) w) := by
  go_enter Try.func167, Try.ntmps167
  go_wp2
  go_loop [0, 5] (fun m j => ∃ k x : Nat, k ≤ i ∧ x ≤ n ∧ j = .int .i64 k ∧ m = .int .i64 x ∧ Hid (x = n / 2 ^ k)) (fun _ j => i - (intOf j).toNat)
  case atStart => exact ⟨0, n, Nat.zero_le _, Nat.le_refl _, rfl, rfl, by show _ = _; simp⟩
  case round =>
    obtain ⟨k, x, hk, hx, rfl, rfl, hxe⟩ := hrel
    by_cases hlt : k < i
    · go_wp2
      go_round
      case rel => exact ⟨k + 1, x / 2, by omega, by omega, by go_num, by go_num, by show _ = _; rw [div_pow_succ, ← hxe.out]⟩
      case measure => simp [intOf]; omega
    · go_wp2
      go_ret
      obtain rfl : k = i := by omega
      exact RetP.mk (val_int (by unfold bitN; rw [← hxe.out]; omega))

theorem power05 (i : Nat) (hi : i < 60) (w : World) :
    Calls Try.prog 168 #[.int .i64 i] w (RetP (.int .i64 (pw i)) w) := by
  go_enter Try.func168, Try.ntmps168
  go_wp2
  go_loop [3, 4] (fun m j => ∃ k : Nat, k ≤ i ∧ j = .int .i64 k ∧ m = .int .i64 (pw k)) (fun _ j => i - (intOf j).toNat)
  case atStart => exact ⟨0, Nat.zero_le _, rfl, rfl⟩
  case round =>
    obtain ⟨k, hk, rfl, rfl⟩ := hrel
    have hp : pw k ≤ 1152921504606846976 := pw_le k 60 (by omega)
    by_cases hlt : k < i
    · go_wp2
      go_round
      case rel => exact ⟨k + 1, by omega, by go_num, by rw [pw_succ]; go_num⟩
      case measure => simp [intOf]; omega
    · go_wp2
      go_ret
      obtain rfl : k = i := by omega
      exact RetP.mk rfl

end Go.Proofs.Ytfinekmegiengaa
/- The walks of layers 5 (the reference's) and 6: the product, what gives 1, what is put for a byte. -/
namespace Go.Proofs.Ytfinekmegiengaa
open Go.RowKit Nep

theorem i64_xor_nat (a b : Nat) (ha : a < 4611686018427387904) (hb : b < 4611686018427387904) : bits .xor .i64 (a : Int) (b : Int) = ((a ^^^ b : Nat) : Int) := by
  have ha' : a % 2 ^ IntKind.i64.bits = a := Nat.mod_eq_of_lt (by simp only [IntKind.bits]; omega)
  have hb' : b % 2 ^ IntKind.i64.bits = b := Nat.mod_eq_of_lt (by simp only [IntKind.bits]; omega)
  have hx : a ^^^ b < 2 ^ 62 := Nat.xor_lt_two_pow (by omega) (by omega)
  simp only [bits, BitVec.ofInt_natCast, BitVec.toNat_xor, BitVec.toNat_ofNat, ha', hb']
  rw [IntKind.wrap_i64]
  omega

theorem mul05 (a b : Nat) (ha : a < 256) (hb : b < 256) (w : World) :
    Calls Try.prog 146 #[.int .u8 a, .int .u8 b] w (RetP (.int .u8 (rmul a b)) w) := by
  go_enter Try.func146, Try.ntmps146
  go_wp2
  go_loop [5, 6] (fun m j => ∃ k : Nat, k ≤ 8 ∧ j = .int .i64 k ∧ m = .int .i64 (mulA a b k)) (fun _ j => 8 - (intOf j).toNat)
  case atStart => exact ⟨0, by omega, rfl, rfl⟩
  case round =>
    obtain ⟨k, hk, rfl, rfl⟩ := hrel
    have hm := mulA_lt a b k ha hk
    by_cases hlt : k < 8
    · have hp : pw k ≤ 128 := pw_le k 7 (by omega)
      have hap : a * pw k < 65536 := by
        have := Nat.mul_le_mul (show a ≤ 255 by omega) hp
        omega
      have hx := i64_xor_nat (mulA a b k) (a * pw k) (by omega) (by omega)
      rw [Int.natCast_mul] at hx
      obtain ⟨bb, hbb⟩ : ∃ bb, bb = bitN b k := ⟨_, rfl⟩
      have hb2 := bitN_lt b k
      rw [← hbb] at hb2
      have C1 := fun w => hbb ▸ bit05 b k (by omega) (by omega) w
      have HB := Lib.hid hbb
      clear hbb
      by_cases h1 : bb = 1
      · have h1' : ((bb : Int) == 1) = true := by rw [h1]; rfl
        go_wp2_with (first | (go_at_call 167; refine (C1 _).mono ?_; rintro e w' ⟨rfl, rfl⟩) | (go_at_call 168; refine (power05 k (by omega) _).mono ?_; rintro e w' ⟨rfl, rfl⟩))
        go_round
        case rel => exact ⟨k + 1, by omega, by go_num, by rw [mulA_one (HB.out ▸ h1)]⟩
        case measure => simp [intOf]; omega
      · have h1' : ((bb : Int) == 1) = false := by simp; omega
        go_wp2_with (first | (go_at_call 167; refine (C1 _).mono ?_; rintro e w' ⟨rfl, rfl⟩))
        go_round
        case rel => exact ⟨k + 1, by omega, by go_num, by rw [mulA_nought (HB.out ▸ h1)]⟩
        case measure => simp [intOf]; omega
    · obtain rfl : k = 8 := by omega
      obtain ⟨p, hp⟩ : ∃ p, p = mulA a b 8 := ⟨_, rfl⟩
      rw [← hp] at hm
      have HP := Lib.hid hp
      rw [← hp]
      clear hp
      go_wp2
      go_loop [5, 7] (fun m j => ∃ k : Nat, k ≤ 7 ∧ j = .int .i64 ((14 - k : Nat) : Int) ∧ m = .int .i64 (redA p k)) (fun _ j => (intOf j).toNat)
      case atStart => exact ⟨0, by omega, rfl, rfl⟩
      case round =>
        obtain ⟨k, hk, hj, rfl⟩ := hrel
        have hr := redA_lt p k hm hk
        obtain ⟨j, hjk⟩ : ∃ j, j = 14 - k := ⟨_, rfl⟩
        rw [← hjk] at hj
        subst hj
        have hj1 : 7 ≤ j := by omega
        have hj2 : j ≤ 14 := by omega
        have hj3 : 8 ≤ j → k < 7 := by omega
        have hj4 : j = 7 → k = 7 := by omega
        have HJ := Lib.hid hjk
        clear hjk
        by_cases hlt : 8 ≤ j
        · have hp8 : pw (j - 8) ≤ 64 := pw_le (j - 8) 6 (by omega)
          have hx := i64_xor_nat (redA p k) (283 * pw (j - 8)) (by omega) (by omega)
          rw [Int.natCast_mul, show ((283 : Nat) : Int) = 283 from rfl] at hx
          obtain ⟨bb, hbb⟩ : ∃ bb, bb = bitN (redA p k) j := ⟨_, rfl⟩
          have hb2 := bitN_lt (redA p k) j
          rw [← hbb] at hb2
          have C1 := fun w => hbb ▸ bit05 (redA p k) j (by omega) (by omega) w
          have C2 : ∀ w, Calls Try.prog 168 #[.int .i64 ((j : Int) - 8)] w (RetP (.int .i64 (pw (j - 8))) w) := fun w => by
            have h := power05 (j - 8) (by omega) w
            rwa [show ((j - 8 : Nat) : Int) = (j : Int) - 8 from by omega] at h
          have HB := Lib.hid hbb
          clear hbb
          by_cases h1 : bb = 1
          · have h1' : ((bb : Int) == 1) = true := by rw [h1]; rfl
            go_wp2_with (first | (go_at_call 167; refine (C1 _).mono ?_; rintro e w' ⟨rfl, rfl⟩) | (go_at_call 168; refine (C2 _).mono ?_; rintro e w' ⟨rfl, rfl⟩))
            go_round
            case rel => exact ⟨k + 1, by omega, by have := HJ.out; go_num, by rw [redA_one (HJ.out ▸ HB.out ▸ h1), ← HJ.out]⟩
            case measure => simp [intOf]; omega
          · have h1' : ((bb : Int) == 1) = false := by simp; omega
            go_wp2_with (first | (go_at_call 167; refine (C1 _).mono ?_; rintro e w' ⟨rfl, rfl⟩))
            go_round
            case rel => exact ⟨k + 1, by omega, by have := HJ.out; go_num, by rw [redA_nought (HJ.out ▸ HB.out ▸ h1)]⟩
            case measure => simp [intOf]; omega
        · go_wp2
          go_ret
          obtain rfl : k = 7 := hj4 (by omega)
          exact RetP.mk (by unfold rmul; rw [← HP.out]; go_num)

set_option maxRecDepth 100000 in
theorem inv05 (a : Nat) (ha : a < 256) (w : World) :
    Calls Try.prog 97 #[.int .u8 a] w (RetP (.int .u8 (rinv a)) w) := by
  go_enter Try.func97, Try.ntmps97
  go_wp2
  go_loop [3] (fun j => ∃ k : Nat, 1 ≤ k ∧ k ≤ 256 ∧ j = .int .i64 k ∧ InvFrom a k) (fun j => 256 - (intOf j).toNat)
  case atStart => exact ⟨1, by omega, by omega, rfl, .first a⟩
  case round =>
    obtain ⟨k, hk1, hk2, rfl, hinv⟩ := hrel
    by_cases hlt : k < 256
    · obtain ⟨p, hp⟩ : ∃ p, p = rmul a k := ⟨_, rfl⟩
      have C1 := fun w => hp ▸ mul05 a k ha hlt w
      have HP := Lib.hid hp
      clear hp
      have hc : (k : Int) % 256 = k := by omega
      by_cases h1 : p = 1
      · have h1' : ((p : Int) == 1) = true := by rw [h1]; rfl
        go_wp2_with (first | (go_at_call 146; refine (C1 _).mono ?_; rintro e w' ⟨rfl, rfl⟩))
        go_ret
        refine RetP.mk (val_int ?_)
        rw [hinv.hit hlt (HP.out ▸ h1)]
      · have h1' : ((p : Int) == 1) = false := by simp; omega
        go_wp2_with (first | (go_at_call 146; refine (C1 _).mono ?_; rintro e w' ⟨rfl, rfl⟩))
        go_round
        case rel =>
          exact ⟨k + 1, by omega, by omega, by go_num, hinv.miss hlt (HP.out ▸ h1)⟩
        case measure => simp [intOf]; omega
    · go_wp2
      go_ret
      obtain rfl : k = 256 := by omega
      exact RetP.mk (val_int (by rw [hinv.none]; rfl))

end Go.Proofs.Ytfinekmegiengaa
/- The walks of layer 6: what is put for a byte, by definition and by the tables; for a word. -/
namespace Go.Proofs.Ytfinekmegiengaa
open Go.RowKit Nep
set_option maxRecDepth 100000

theorem bit06 (b i : Nat) (hb : b < 256) (hi : i < 1000) (w : World) :
    Calls Try.prog 98 #[.int .u8 b, .int .i64 i] w (RetP (.int .i64 (bt8 b i)) w) := by
  obtain ⟨m, hm⟩ : ∃ m, m = i % 8 := ⟨_, rfl⟩
  have hm8 : m < 8 := by omega
  have hm2 : (i : Int) % 8 = m := by omega
  have HM := Lib.hid hm
  clear hm
  go_enter Try.func98, Try.ntmps98
  go_wp2
  go_loop [5, 6] (fun m' j => ∃ k x : Nat, k ≤ m ∧ x < 256 ∧ j = .int .i64 k ∧ m' = .int .i64 x ∧ Hid (x = b / 2 ^ k)) (fun _ j => m - (intOf j).toNat)
  case atStart => exact ⟨0, b, Nat.zero_le _, hb, rfl, by go_num, by show _ = _; simp⟩
  case round =>
    obtain ⟨k, x, hk, hx, rfl, rfl, hxe⟩ := hrel
    by_cases hlt : k < m
    · go_wp2
      go_round
      case rel => exact ⟨k + 1, x / 2, by omega, by omega, by go_num, by go_num, by show _ = _; rw [div_pow_succ, ← hxe.out]⟩
      case measure => simp [intOf]; omega
    · go_wp2
      go_ret
      obtain rfl : k = m := by omega
      exact RetP.mk (val_int (by unfold bt8 bitN; rw [← HM.out, ← hxe.out]; omega))

theorem sub06 (a : Nat) (ha : a < 256) (w : World) :
    Calls Try.prog 30 #[.int .u8 a] w (RetP (.int .u8 (rsub a)) w) := by
  obtain ⟨v, hv⟩ : ∃ v, v = rinv a := ⟨_, rfl⟩
  have hv8 := rinv_lt a
  rw [← hv] at hv8
  have C0 := fun w => hv ▸ inv05 a ha w
  have HV := Lib.hid hv
  clear hv
  go_enter Try.func30, Try.ntmps30
  go_wp2_with (first | (go_at_call 97; refine (C0 _).mono ?_; rintro e w' ⟨rfl, rfl⟩))
  go_loop [4, 5, 6] (fun o p j => ∃ k : Nat, k ≤ 8 ∧ j = .int .i64 k ∧ p = .int .i64 (pw k) ∧ o = .int .i64 (subS v k)) (fun _ _ j => 8 - (intOf j).toNat)
  case atStart => exact ⟨0, by omega, rfl, rfl, rfl⟩
  case round =>
    obtain ⟨k, hk, rfl, rfl, rfl⟩ := hrel
    have hp : pw k ≤ 256 := pw_le k 8 hk
    have hs := subS_lt v k
    by_cases hlt : k < 8
    · have nm : ∀ n : Nat, ∃ b, b = n := fun n => ⟨_, rfl⟩
      obtain ⟨b0, e0⟩ := nm (bt8 v k)
      obtain ⟨b4, e4⟩ := nm (bt8 v (k + 4))
      obtain ⟨b5, e5⟩ := nm (bt8 v (k + 5))
      obtain ⟨b6, e6⟩ := nm (bt8 v (k + 6))
      obtain ⟨b7, e7⟩ := nm (bt8 v (k + 7))
      obtain ⟨b9, e9⟩ := nm (bt8 99 k)
      obtain ⟨x1, f1⟩ := nm (b0 ^^^ b4)
      obtain ⟨x2, f2⟩ := nm (x1 ^^^ b5)
      obtain ⟨x3, f3⟩ := nm (x2 ^^^ b6)
      obtain ⟨x4, f4⟩ := nm (x3 ^^^ b7)
      obtain ⟨x5, f5⟩ := nm (x4 ^^^ b9)
      have x2' : ∀ {x y : Nat}, x < 2 → y < 2 → x ^^^ y < 2 := fun h k => Nat.xor_lt_two_pow (n := 1) h k
      have l0 : b0 < 2 := e0 ▸ bt8_lt _ _
      have l4 : b4 < 2 := e4 ▸ bt8_lt _ _
      have l5 : b5 < 2 := e5 ▸ bt8_lt _ _
      have l6 : b6 < 2 := e6 ▸ bt8_lt _ _
      have l7 : b7 < 2 := e7 ▸ bt8_lt _ _
      have l9 : b9 < 2 := e9 ▸ bt8_lt _ _
      have m1 : x1 < 2 := f1 ▸ x2' l0 l4
      have m2 : x2 < 2 := f2 ▸ x2' m1 l5
      have m3 : x3 < 2 := f3 ▸ x2' m2 l6
      have m4 : x4 < 2 := f4 ▸ x2' m3 l7
      have m5 : x5 < 2 := f5 ▸ x2' m4 l9
      have h5 : subBit v k = x5 := by rw [f5, f4, f3, f2, f1, e0, e4, e5, e6, e7, e9]; rfl
      have g1 : bits .xor .i64 (b0 : Int) (b4 : Int) = x1 := f1 ▸ i64_xor_nat b0 b4 (by omega) (by omega)
      have g2 : bits .xor .i64 (x1 : Int) (b5 : Int) = x2 := f2 ▸ i64_xor_nat x1 b5 (by omega) (by omega)
      have g3 : bits .xor .i64 (x2 : Int) (b6 : Int) = x3 := f3 ▸ i64_xor_nat x2 b6 (by omega) (by omega)
      have g4 : bits .xor .i64 (x3 : Int) (b7 : Int) = x4 := f4 ▸ i64_xor_nat x3 b7 (by omega) (by omega)
      have g5 : bits .xor .i64 (x4 : Int) (b9 : Int) = x5 := f5 ▸ i64_xor_nat x4 b9 (by omega) (by omega)
      have D0 := fun w => e0 ▸ bit06 v k hv8 (by omega) w
      have D4 := fun w => e4 ▸ bit06 v (k + 4) hv8 (by omega) w
      have D5 := fun w => e5 ▸ bit06 v (k + 5) hv8 (by omega) w
      have D6 := fun w => e6 ▸ bit06 v (k + 6) hv8 (by omega) w
      have D7 := fun w => e7 ▸ bit06 v (k + 7) hv8 (by omega) w
      have D9 := fun w => e9 ▸ bit06 99 k (by omega) (by omega) w
      rw [show ((k + 4 : Nat) : Int) = (k : Int) + 4 from by omega] at D4
      rw [show ((k + 5 : Nat) : Int) = (k : Int) + 5 from by omega] at D5
      rw [show ((k + 6 : Nat) : Int) = (k : Int) + 6 from by omega] at D6
      rw [show ((k + 7 : Nat) : Int) = (k : Int) + 7 from by omega] at D7
      rw [show ((99 : Nat) : Int) = 99 from rfl] at D9
      have H5 := Lib.hid h5
      have hpx : pw k * x5 ≤ 256 := by
        have := Nat.mul_le_mul hp (show x5 ≤ 1 by omega)
        omega
      have hpx' : (pw k : Int) * (x5 : Int) ≤ 256 := by rw [← Int.natCast_mul]; omega
      have hpx'' : 0 ≤ (pw k : Int) * (x5 : Int) := by rw [← Int.natCast_mul]; omega
      clear h5 e0 e4 e5 e6 e7 e9 f1 f2 f3 f4 f5 C0 nm x2' hpx
      go_wp2_with (first | (go_at_call 98; first | (with_reducible refine (D0 _).mono ?_) | (with_reducible refine (D4 _).mono ?_) | (with_reducible refine (D5 _).mono ?_) | (with_reducible refine (D6 _).mono ?_) | (with_reducible refine (D7 _).mono ?_) | (with_reducible refine (D9 _).mono ?_)); (rintro e w' ⟨rfl, rfl⟩))
      go_round
      case rel => exact ⟨k + 1, by omega, by go_num, by rw [pw_succ]; go_num, by rw [subS_succ, H5.out]; exact val_int (by simp)⟩
      case measure => simp [intOf]; omega
    · go_wp2
      go_ret
      obtain rfl : k = 8 := by omega
      exact RetP.mk (val_int (by unfold rsub; rw [← HV.out]; omega))

end Go.Proofs.Ytfinekmegiengaa
/- The walks of layer 6: the two tables. -/
namespace Go.Proofs.Ytfinekmegiengaa
open Go.RowKit Nep
set_option maxRecDepth 100000

def subsV : Array Value := (sboxL.map fun x : Nat => Value.int .u8 (x : Int)).toArray
def backsV : Array Value := (backL.map fun x : Nat => Value.int .u8 (x : Int)).toArray
theorem subsV_get (a : Nat) (ha : a < 256) : subsV[a]? = some (.int .u8 (sb a)) := by
  unfold subsV sb
  have hl : sboxL.length = 256 := by decide +kernel
  simp [List.getElem?_eq_getElem (show a < sboxL.length by omega)]
theorem backsV_get (a : Nat) (ha : a < 256) : backsV[a]? = some (.int .u8 (bk a)) := by
  unfold backsV bk
  have hl : backL.length = 256 := by decide +kernel
  simp [List.getElem?_eq_getElem (show a < backL.length by omega)]

theorem info256 : (Try.prog.info? 117).map (fun i => (i.zero, i.size)) = some (some (.agg (Array.replicate 256 (.int .u8 0))), 256) := by kernel_rfl
theorem size256 : (Try.prog.info? 117).map (·.size) = some 256 := by kernel_rfl
theorem subsV_size : subsV.size = 256 := by decide +kernel
theorem backsV_size : backsV.size = 256 := by decide +kernel
theorem build_subs (w : World) (parts : Array (Nat × Value)) (hp : parts = (subsV.zipIdx.map fun (v, i) => (i, v))) : (Instr.build 117 parts).run Try.prog w = .ok (.agg subsV) w := by
  subst hp
  kernel_rfl

theorem tables06 (w : World) : Calls Try.prog 96 #[] w (RetB (.agg subsV) w) := by
  go_enter Try.func96, Try.ntmps96
  go_step
  go_step
  refine wpList_alloc rfl 117 rfl _ _ info256 ?_
  iterate 5 go_step
  refine wpList_build rfl _ _ rfl subsV (build_subs _ _ ?_) ?_
  · kernel_rfl
  refine wpList_store_last rfl _ _ _ rfl _ subsV rfl rfl (by rw [subsV_size]; exact size256) (by rw [subsV_size]; exact Array.size_replicate ..) (by decide +kernel) ?_
  go_wp2
  refine ret_row rfl w.heap.size _ subsV (0, 0) _ rfl (heap_alloc_last w _) rfl Try.underlying117 rfl (by rw [subsV_size]; exact size256) ?_
  exact RetB.mk rfl ((Below.refl _ _).alloc (Nat.le_refl _) _)
theorem build_backs (w : World) (parts : Array (Nat × Value)) (hp : parts = (backsV.zipIdx.map fun (v, i) => (i, v))) : (Instr.build 117 parts).run Try.prog w = .ok (.agg backsV) w := by
  subst hp
  kernel_rfl

theorem backs06 (w : World) : Calls Try.prog 99 #[] w (RetB (.agg backsV) w) := by
  go_enter Try.func99, Try.ntmps99
  go_step
  go_step
  refine wpList_alloc rfl 117 rfl _ _ info256 ?_
  iterate 5 go_step
  refine wpList_build rfl _ _ rfl backsV (build_backs _ _ ?_) ?_
  · kernel_rfl
  refine wpList_store_last rfl _ _ _ rfl _ backsV rfl rfl (by rw [backsV_size]; exact size256) (by rw [backsV_size]; exact Array.size_replicate ..) (by decide +kernel) ?_
  go_wp2
  refine ret_row rfl w.heap.size _ backsV (0, 0) _ rfl (heap_alloc_last w _) rfl Try.underlying117 rfl (by rw [backsV_size]; exact size256) ?_
  exact RetB.mk rfl ((Below.refl _ _).alloc (Nat.le_refl _) _)
end Go.Proofs.Ytfinekmegiengaa
/- The walks of layer 6: what is put for a byte, and for which one is; for a word's bytes; awake. -/
namespace Go.Proofs.Ytfinekmegiengaa
open Go.RowKit Nep
set_option maxRecDepth 100000

theorem run_index_agg {P : Program} {T E n : Nat} {k : IntKind} (cs : Array Value) (a : Nat) (v : Value) (w : World) (hu : P.underlying T = some (.array n E)) (hi : (isAgg E).run P w = .ok false w)
    (hs : (sizeOf E).run P w = .ok 1 w) (ha : a < n) (hv : cs[a]? = some v) : (Instr.index T (.agg cs) (.int k a)).run P w = .ok v w := by
  unfold Instr.index
  simp [asIntOf, run_underlying hu, part, hi, hs, hv]
  omega

theorem index256 (c : Array Value) (a : Nat) (v : Value) (ha : a < 256) (hv : c[a]? = some v) (w : World) : (Instr.index 117 (.agg c) (.int .u8 a)).run Try.prog w = .ok v w := 
  run_index_agg c a v w Try.underlying117 (by kernel_rfl) (by kernel_rfl) ha hv

theorem sub_calls (a : Nat) {A : Int} (hA : A = a) (ha : a < 256) (w : World) :
    Calls Try.prog 29 #[.int .u8 A] w (RetB (.int .u8 (sb a)) w) := by
  subst hA
  have hi := fun w => index256 subsV a _ ha (subsV_get a ha) w
  go_enter Try.func29, Try.ntmps29
  go_wp2_with (first | (go_at_call 96; refine (tables06 _).mono ?_; rintro e w' ⟨rfl, hb⟩))
  go_ret
  exact RetB.mk rfl hb

theorem back_calls (a : Nat) {A : Int} (hA : A = a) (ha : a < 256) (w : World) :
    Calls Try.prog 31 #[.int .u8 A] w (RetB (.int .u8 (bk a)) w) := by
  subst hA
  have hi := fun w => index256 backsV a _ ha (backsV_get a ha) w
  go_enter Try.func31, Try.ntmps31
  go_wp2_with (first | (go_at_call 99; refine (backs06 _).mono ?_; rintro e w' ⟨rfl, hb⟩))
  go_ret
  exact RetB.mk rfl hb

theorem u32_join (x y i : Nat) {X Y : Int} (hx : x < 4294967296) (hy : y < 4294967296) (hm : x % 2 ^ i = 0) (hl : y < 2 ^ i) (hX : X = x) (hY : Y = y) :
    bits .or .u32 X Y = ((x + y : Nat) : Int) := by
  subst hX; subst hY
  rw [u32_or_nat x y hx hy, nat_join i x y hm hl]

/-- a word's bytes, the greatest first, put for -/
def wordS (x : Nat) : Nat := sb (x / 16777216) * 16777216 + sb (x / 65536 % 256) * 65536 + sb (x / 256 % 256) * 256 + sb (x % 256)

theorem word_calls (x : Nat) {X : Int} (hX : X = x) (hx : x < 4294967296) (w : World) :
    Calls Try.prog 33 #[.int .u32 X] w (RetB (.int .u32 (wordS x)) w) := by
  subst hX
  obtain ⟨p3, e3⟩ : ∃ p, p = sb (x / 16777216) := ⟨_, rfl⟩
  obtain ⟨p2, e2⟩ : ∃ p, p = sb (x / 65536 % 256) := ⟨_, rfl⟩
  obtain ⟨p1, e1⟩ : ∃ p, p = sb (x / 256 % 256) := ⟨_, rfl⟩
  obtain ⟨p0, e0⟩ : ∃ p, p = sb (x % 256) := ⟨_, rfl⟩
  have l3 : p3 < 256 := e3 ▸ sb_lt _
  have l2 : p2 < 256 := e2 ▸ sb_lt _
  have l1 : p1 < 256 := e1 ▸ sb_lt _
  have l0 : p0 < 256 := e0 ▸ sb_lt _
  have C3 : ∀ w, Calls Try.prog 29 #[.int .u8 ((x : Int) / 16777216)] w (RetB (.int .u8 p3) w) := fun w => e3 ▸ sub_calls _ (by omega) (by omega) w
  have C2 : ∀ w, Calls Try.prog 29 #[.int .u8 ((x : Int) / 65536 % 256)] w (RetB (.int .u8 p2) w) := fun w => e2 ▸ sub_calls _ (by omega) (by omega) w
  have C1 : ∀ w, Calls Try.prog 29 #[.int .u8 ((x : Int) / 256 % 256)] w (RetB (.int .u8 p1) w) := fun w => e1 ▸ sub_calls _ (by omega) (by omega) w
  have C0 : ∀ w, Calls Try.prog 29 #[.int .u8 ((x : Int) % 256)] w (RetB (.int .u8 p0) w) := fun w => e0 ▸ sub_calls _ (by omega) (by omega) w
  have hres : wordS x = p3 * 16777216 + p2 * 65536 + p1 * 256 + p0 := by unfold wordS; rw [e0, e1, e2, e3]
  have HR := Lib.hid hres
  clear hres e0 e1 e2 e3
  go_enter Try.func33, Try.ntmps33
  go_wp2_with (first | (go_at_call 29; first | ((with_reducible refine (C3 _).mono ?_); (rintro e w3 ⟨rfl, hb3⟩)) | ((with_reducible refine (C2 _).mono ?_); (rintro e w2 ⟨rfl, hb2⟩)) | ((with_reducible refine (C1 _).mono ?_); (rintro e w1 ⟨rfl, hb1⟩)) | ((with_reducible refine (C0 _).mono ?_); (rintro e w0 ⟨rfl, hb0⟩))))
  go_ret
  have B2 := hb3.trans (hb2.mono hb3.size)
  have B1 := B2.trans (hb1.mono B2.size)
  refine RetB.mk (val_int ?_) (B1.trans (hb0.mono B1.size))
  rw [HR.out]
  have f1 : bits .or .u32 ((p3 : Int) * 16777216) ((p2 : Int) * 65536) = ((p3 * 16777216 + p2 * 65536 : Nat) : Int) := u32_join _ _ 24 (by omega) (by omega) (by omega) (by omega) (by omega) (by omega)
  have f2 : bits .or .u32 ((p3 * 16777216 + p2 * 65536 : Nat) : Int) ((p1 : Int) * 256) = ((p3 * 16777216 + p2 * 65536 + p1 * 256 : Nat) : Int) := u32_join _ _ 16 (by omega) (by omega) (by omega) (by omega) (by omega) (by omega)
  have f3 : bits .or .u32 ((p3 * 16777216 + p2 * 65536 + p1 * 256 : Nat) : Int) (p0 : Int) = ((p3 * 16777216 + p2 * 65536 + p1 * 256 + p0 : Nat) : Int) := u32_join _ _ 8 (by omega) (by omega) (by omega) (by omega) rfl rfl
  show bits .or .u32 (bits .or .u32 (bits .or .u32 ((p3 : Int) * 16777216) ((p2 : Int) * 65536)) ((p1 : Int) * 256)) (p0 : Int) = _
  rw [f1, f2, f3]

theorem awake06 (w : World) : Calls Try.prog 32 #[] w (RetB (.bool true) w) := by
  have h1 : sb 83 = 237 := by decide +kernel
  have h2 : bk 237 = 83 := by decide +kernel
  have C1 : ∀ w, Calls Try.prog 29 #[.int .u8 83] w (RetB (.int .u8 237) w) := fun w => by simpa [h1] using sub_calls 83 rfl (by omega) w
  have C2 : ∀ w, Calls Try.prog 31 #[.int .u8 237] w (RetB (.int .u8 83) w) := fun w => by simpa [h2] using back_calls 237 rfl (by omega) w
  go_enter Try.func32, Try.ntmps32
  go_wp2_with (first | (go_at_call 29; refine (C1 _).mono ?_; rintro e w1 ⟨rfl, hb1⟩) | (go_at_call 31; refine (C2 _).mono ?_; rintro e w2 ⟨rfl, hb2⟩))
  go_ret
  exact RetB.mk rfl (hb1.trans (hb2.mono hb1.size))
end Go.Proofs.Ytfinekmegiengaa
/- The walks of layer 6: what is put for each of a list's bytes, and for which each is. -/
namespace Go.Proofs.Ytfinekmegiengaa
open Go.RowKit Nep
set_option maxRecDepth 100000

theorem subs_calls (v : Value) (l : List Nat) (w : World) (hl : Bytes l) (hr : RdB w.heap.size w v l) (hn : l.length ≤ 140737488351232) :
    Calls Try.prog 34 #[v] w (RetS (l.map sb) w) := by
  have hr0 := hr
  go_enter Try.func34, Try.ntmps34
  go_wp2_with (first | (refine wpList_lenB hr rfl rfl rfl ?_) | (apply wpList_makeBytes (n := l.length); rfl; rfl; rfl; rfl; exact hn; intro g w1 hg1 hg2 hrow hb1; replace hr := hr.mono hb1))
  obtain ⟨ys, hys⟩ : ∃ ys, ys = l.map sb := ⟨_, rfl⟩
  obtain ⟨zs, hzs⟩ : ∃ zs, zs = bv (List.replicate l.length 0) := ⟨_, rfl⟩
  have hyl : ys.length = l.length := by rw [hys]; simp
  have hzl : zs.length = l.length := by rw [hzs]; simp
  have hf : FillRow w1 g 5 (bv ys) zs 0 := .start (by rw [hzs]; exact hrow) (by rw [hzl, bv_length, hyl])
  have HY := Lib.hid hys
  rw [← hys]
  have HYL := Lib.hid hyl
  have HZL := Lib.hid hzl
  clear hys hzs hyl hzl hrow hr
  go_loopw [11] (fun i wr => ∃ k : Nat, k ≤ l.length ∧ i = .int .i64 k ∧ FillRow wr g 5 (bv ys) zs k ∧ Below w.heap.size w wr) (fun i _ => l.length - (intOf i).toNat)
  case atStart => exact ⟨0, by omega, rfl, hf, hb1⟩
  case round =>
    obtain ⟨k, hk, rfl, hfk, hbk⟩ := hrel
    clear hf
    have hrk := hr0.mono hbk
    have hx := hl.get k
    by_cases hlt : k < l.length
    · obtain ⟨x, hxe⟩ : ∃ x, x = l.getD k 0 := ⟨_, rfl⟩
      rw [← hxe] at hx
      have hi := fun w => index256 subsV x _ hx (subsV_get x hx) w
      have HYK : (bv ys)[k]? = some (.int .u8 (sb x)) := by
        rw [bv_get _ _ (by have := HYL.out; omega), HY.out, hxe]
        simp [List.getElem?_eq_getElem hlt]
      have HYK' := Lib.hid HYK
      have e1 : ((l.getD k 0 : Nat) : Int) = x := by rw [hxe]
      clear hxe HYK
      go_wp2_with (first | (apply wpList_indexB hrk k hlt; rfl; rfl; rfl; rfl; rfl; rw [e1]; intro p hp hcell; clear hrk) | (go_at_call 96; refine (tables06 _).mono ?_; rintro e w2 ⟨rfl, hb2⟩; have hf2 := hfk.next hb2; have hfr2 := hf2.free k; have hs2 := hb2.size; have hc2 := hf2.cell (by have := HZL.out; omega)))
      have hlt2 := hf2.lt
      have hbs := hbk.size
      go_roundw
      case rel => exact ⟨k + 1, by omega, by go_num, hf2.put HYK'.out, (hbk.trans (hb2.mono hbs)).setCell (by exact hg1) _⟩
      case measure => simp [intOf]; omega
    · go_wp2_with fail
      go_ret
      obtain rfl : k = l.length := by omega
      rw [← HY.out]
      exact RetS.of_row (hfk.done (by rw [HZL.out]; exact Nat.le_refl _)) hg1 hbk (by rw [HYL.out]; exact hn) HYL.out.symm

theorem backs_calls (v : Value) (l : List Nat) (w : World) (hl : Bytes l) (hr : RdB w.heap.size w v l) (hn : l.length ≤ 140737488351232) :
    Calls Try.prog 35 #[v] w (RetS (l.map bk) w) := by
  have hr0 := hr
  go_enter Try.func35, Try.ntmps35
  go_wp2_with (first | (refine wpList_lenB hr rfl rfl rfl ?_) | (apply wpList_makeBytes (n := l.length); rfl; rfl; rfl; rfl; exact hn; intro g w1 hg1 hg2 hrow hb1; replace hr := hr.mono hb1))
  obtain ⟨ys, hys⟩ : ∃ ys, ys = l.map bk := ⟨_, rfl⟩
  obtain ⟨zs, hzs⟩ : ∃ zs, zs = bv (List.replicate l.length 0) := ⟨_, rfl⟩
  have hyl : ys.length = l.length := by rw [hys]; simp
  have hzl : zs.length = l.length := by rw [hzs]; simp
  have hf : FillRow w1 g 5 (bv ys) zs 0 := .start (by rw [hzs]; exact hrow) (by rw [hzl, bv_length, hyl])
  have HY := Lib.hid hys
  rw [← hys]
  have HYL := Lib.hid hyl
  have HZL := Lib.hid hzl
  clear hys hzs hyl hzl hrow hr
  go_loopw [11] (fun i wr => ∃ k : Nat, k ≤ l.length ∧ i = .int .i64 k ∧ FillRow wr g 5 (bv ys) zs k ∧ Below w.heap.size w wr) (fun i _ => l.length - (intOf i).toNat)
  case atStart => exact ⟨0, by omega, rfl, hf, hb1⟩
  case round =>
    obtain ⟨k, hk, rfl, hfk, hbk⟩ := hrel
    clear hf
    have hrk := hr0.mono hbk
    have hx := hl.get k
    by_cases hlt : k < l.length
    · obtain ⟨x, hxe⟩ : ∃ x, x = l.getD k 0 := ⟨_, rfl⟩
      rw [← hxe] at hx
      have hi := fun w => index256 backsV x _ hx (backsV_get x hx) w
      have HYK : (bv ys)[k]? = some (.int .u8 (bk x)) := by
        rw [bv_get _ _ (by have := HYL.out; omega), HY.out, hxe]
        simp [List.getElem?_eq_getElem hlt]
      have HYK' := Lib.hid HYK
      have e1 : ((l.getD k 0 : Nat) : Int) = x := by rw [hxe]
      clear hxe HYK
      go_wp2_with (first | (apply wpList_indexB hrk k hlt; rfl; rfl; rfl; rfl; rfl; rw [e1]; intro p hp hcell; clear hrk) | (go_at_call 99; refine (backs06 _).mono ?_; rintro e w2 ⟨rfl, hb2⟩; have hf2 := hfk.next hb2; have hfr2 := hf2.free k; have hs2 := hb2.size; have hc2 := hf2.cell (by have := HZL.out; omega)))
      have hlt2 := hf2.lt
      have hbs := hbk.size
      go_roundw
      case rel => exact ⟨k + 1, by omega, by go_num, hf2.put HYK'.out, (hbk.trans (hb2.mono hbs)).setCell (by exact hg1) _⟩
      case measure => simp [intOf]; omega
    · go_wp2_with fail
      go_ret
      obtain rfl : k = l.length := by omega
      rw [← HY.out]
      exact RetS.of_row (hfk.done (by rw [HZL.out]; exact Nat.le_refl _)) hg1 hbk (by rw [HYL.out]; exact hn) HYL.out.symm

end Go.Proofs.Ytfinekmegiengaa
/- The walks of layer 1: numbers of bytes, bytes of numbers. -/
namespace Go.Proofs.Ytfinekmegiengaa
open Go.RowKit Nep
set_option maxRecDepth 100000
set_option linter.unusedVariables false

theorem take_succ_getD (l : List Nat) (k : Nat) (h : k < l.length) : l.take (k + 1) = l.take k ++ [l.getD k 0] := by
  rw [List.take_succ_eq_append_getElem h]
  simp [List.getElem?_eq_getElem h]
theorem numF_snoc (l : List Nat) (n x : Nat) : numF n (l ++ [x]) = numF n l * 256 + x := by rw [numF_append]; rfl
theorem numF_take_lt (l : List Nat) (hl : Bytes l) (k : Nat) (hk : k < 8) : num (l.take k) < 72057594037927936 := by
  have h := num_lt (l.take k) (hl.take k)
  have h2 : 256 ^ (l.take k).length ≤ 256 ^ 7 := Nat.pow_le_pow_right (by omega) (by rw [List.length_take]; omega)
  omega
theorem u64_join (x y i : Nat) {X Y : Int} (hx : x < 18446744073709551616) (hy : y < 18446744073709551616) (hm : x % 2 ^ i = 0) (hl : y < 2 ^ i) (hX : X = x) (hY : Y = y) :
    bits .or .u64 X Y = ((x + y : Nat) : Int) := by
  subst hX; subst hY
  rw [u64_or_nat x y hx hy, nat_join i x y hm hl]

theorem run_max2 {P : Program} {ts : Array TypeId} {ty : TypeId} {k : IntKind} (x y : Int) (w : World) : (Builtin.max_ ts ty #[.int k x, .int k y]).run P w = .ok (.int k (if y > x then y else x)) w := by
  simp [Builtin.max_, Builtin.max2]
theorem run_min2 {P : Program} {ts : Array TypeId} {ty : TypeId} {k : IntKind} (x y : Int) (w : World) : (Builtin.min_ ts ty #[.int k x, .int k y]).run P w = .ok (.int k (if y < x then y else x)) w := by
  simp [Builtin.min_, Builtin.min2]

theorem num_calls (v : Value) (l : List Nat) (w : World) (hl : Bytes l) {B : Nat} (hr : RdB B w v l) (h8 : l.length ≤ 8) :
    Calls Try.prog 100 #[v] w (RetP (.int .u64 (num l)) w) := by
  have hmx : ∀ w, (Builtin.max_ #[3, 3] 3 #[.int .i64 0, .int .i64 ((l.length : Int) - 8)]).run Try.prog w = .ok (.int .i64 0) w := fun w => by
    rw [run_max2, if_neg (by omega)]
  go_enter Try.func100, Try.ntmps100
  go_wp2_with (first | (refine wpList_lenB hr rfl rfl rfl ?_) | (refine wpList_lenB hr' rfl rfl rfl ?_) | (apply wpList_cutB hr 0 l.length; rfl; rfl; rfl; exact .inr ⟨_, _, rfl, rfl⟩; exact .inl ⟨rfl, rfl, rfl⟩; exact .inl rfl; exact Nat.zero_le _; exact Nat.le_refl _; intro v' hr'; rw [List.drop_zero, Nat.sub_zero, List.take_length] at hr'))
  go_loop [3, 13] (fun n i => ∃ k : Nat, k ≤ l.length ∧ i = .int .i64 k ∧ n = .int .u64 (num (l.take k))) (fun _ i => l.length - (intOf i).toNat)
  case atStart => exact ⟨0, by omega, rfl, rfl⟩
  case round =>
    obtain ⟨k, hk, rfl, rfl⟩ := hrel
    by_cases hlt : k < l.length
    · obtain ⟨x, hx⟩ : ∃ x, x = l.getD k 0 := ⟨_, rfl⟩
      have hx8 : x < 256 := hx ▸ hl.get k
      have e1 : ((l.getD k 0 : Nat) : Int) = x := by rw [hx]
      have hN := numF_take_lt l hl k (by omega)
      obtain ⟨N, hNe⟩ : ∃ N, N = num (l.take k) := ⟨_, rfl⟩
      rw [← hNe] at hN ⊢
      have hs : num (l.take (k + 1)) = N * 256 + x := by rw [take_succ_getD l k hlt, num, numF_snoc, hNe, hx]; rfl
      have hj := u64_join (N * 256) x 8 (X := (N : Int) * 256) (Y := (x : Int)) (by omega) (by omega) (by omega) (by omega) (by omega) rfl
      have HS := Lib.hid hs
      clear hs hNe hx hmx
      go_wp2_with (first | (apply wpList_indexB hr' k hlt; rfl; rfl; rfl; rfl; rfl; rw [e1]; intro p hp hcell))
      go_round
      case rel => exact ⟨k + 1, by omega, by go_num, by rw [HS.out]; go_num⟩
      case measure => simp [intOf]; omega
    · go_wp2_with fail
      go_ret
      obtain rfl : k = l.length := by omega
      exact RetP.mk (val_int (by rw [List.take_length]))

theorem fillR_unset {α : Type} (ys zs : List α) (j : Nat) (h : ys.length = zs.length) (hj : j < ys.length) (y : α) (hy : ys[j]? = some y) : (fillR zs ys (j + 1)).set j y = fillR zs ys j := by
  apply List.ext_getElem?
  intro i
  unfold fillR
  rw [List.getElem?_set]
  by_cases hi : j = i
  · subst hi
    rw [if_pos rfl, if_pos (by simp; omega)]
    rw [List.getElem?_append_right (by simp; omega), List.getElem?_drop, ← hy]
    congr 1
    simp
    omega
  · rw [if_neg hi]
    by_cases hlt : i < j
    · rw [List.getElem?_append_left (by simp; omega), List.getElem?_append_left (by simp; omega), List.getElem?_take, List.getElem?_take, if_pos hlt, if_pos (by omega)]
    · rw [List.getElem?_append_right (by simp; omega), List.getElem?_append_right (by simp; omega), List.getElem?_drop, List.getElem?_drop]
      congr 1
      simp
      omega

theorem run_shr (n i : Nat) {K : IntKind} (hK : K.bits = 64) (hi : i ≤ 7) {J : IntKind} {Y : Int} (hY : Y = 8 * (i : Int)) (t : TypeId) (P : Program) (w : World) :
    (binOp .shr t (.int K (n : Int)) (.int J Y)).run P w = .ok (.int K ((n / 256 ^ i : Nat) : Int)) w := by
  subst hY
  have h1 : ¬ (8 * (i : Int) < 0) := by omega
  have h2 : (8 * (i : Int)).toNat = 8 * i := by omega
  have h3 : min (8 * i) 64 = 8 * i := by omega
  have h4 : (2 : Nat) ^ (8 * i) = 256 ^ i := by rw [Nat.pow_mul]
  have h5 : ((2 : Int) ^ (8 * i)) = ((256 ^ i : Nat) : Int) := by rw [← h4, Int.natCast_pow]; rfl
  have h6 : (n : Int).fdiv ((256 ^ i : Nat) : Int) = ((n / 256 ^ i : Nat) : Int) := by
    rw [Int.fdiv_eq_ediv_of_nonneg _ (Int.natCast_nonneg _), ← Int.natCast_ediv]
  have e : binOp .shr t (.int K (n : Int)) (.int J (8 * (i : Int))) = Pure.pure (.int K ((n / 256 ^ i : Nat) : Int)) := by
    simp only [binOp, Op.shift, if_neg h1, hK, h2, h3, h5, h6]
  rw [e]
  rfl

/-- the bytes of a number, the greatest first -/
theorem big_calls (n k : Nat) {N K : Int} (hN : N = n) (hK : K = k) (hn : n < 18446744073709551616) (hk : k ≤ 8) (w : World) :
    Calls Try.prog 103 #[.int .u64 N, .int .i64 K] w (RetS (big n k) w) := by
  subst hN hK
  have hmn : ∀ w, (Builtin.min_ #[3, 3] 3 #[.int .i64 8, .int .i64 (k : Int)]).run Try.prog w = .ok (.int .i64 k) w := fun w => by
    rw [run_min2]
    by_cases h : (k : Int) < 8
    · rw [if_pos h]
    · rw [if_neg h, show (k : Int) = 8 from by omega]
  have hmx : ∀ w, (Builtin.max_ #[3, 3] 3 #[.int .i64 0, .int .i64 (k : Int)]).run Try.prog w = .ok (.int .i64 k) w := fun w => by
    rw [run_max2]
    by_cases h : (k : Int) > 0
    · rw [if_pos h]
    · rw [if_neg h, show (k : Int) = 0 from by omega]
  obtain ⟨ys, hys⟩ : ∃ ys, ys = bv (big n k) := ⟨_, rfl⟩
  obtain ⟨zs, hzs⟩ : ∃ zs, zs = bv (List.replicate k 0) := ⟨_, rfl⟩
  have hyl : ys.length = k := by rw [hys, bv_length, big_length]
  have hzl : zs.length = k := by rw [hzs]; simp
  have HY := Lib.hid hys
  have HZ := Lib.hid hzs
  have HYL := Lib.hid hyl
  have HZL := Lib.hid hzl
  clear hys hzs hyl hzl
  go_enter Try.func103, Try.ntmps103
  go_wp2_with (first | (apply wpList_makeBytes (n := k); rfl; rfl; rfl; rfl; exact Nat.le_trans hk (by decide); intro g w1 hg1 hg2 hrow hb1))
  rw [← HZ.out] at hrow
  go_loopw [13] (fun i wr => ∃ j : Nat, j ≤ k ∧ i = .int .i64 j ∧ Row wr g 5 (fillR zs ys (k - j)).toArray ∧ Below w.heap.size w wr) (fun i _ => k - (intOf i).toNat)
  case atStart => exact ⟨0, by omega, rfl, by rw [Nat.sub_zero, fillR_full _ _ _ (by rw [HYL.out, HZL.out]) (by rw [HYL.out]; exact Nat.le_refl _)]; exact hrow, hb1⟩
  case round =>
    obtain ⟨j, hj, rfl, hrowj, hbj⟩ := hrel
    clear hrow hmx hmn
    by_cases hlt : j < k
    · obtain ⟨m, hm⟩ : ∃ m, m = k - 1 - j := ⟨_, rfl⟩
      have hv : ((n / 256 ^ j % 256 : Nat) : Int) = (n : Int) / 2 ^ (8 * j) % 256 := by
        rw [show 256 ^ j = 2 ^ (8 * j) from by rw [Nat.pow_mul]]
        simp
      have hy : ys[m]? = some (.int .u8 ((n / 256 ^ j % 256 : Nat) : Int)) := by
        rw [HY.out, bv_get _ _ (by rw [big_length]; omega)]
        unfold big
        simp [show m < k by omega]
        congr 3
        omega
      have hc : wr.cell? ⟨g, m, none⟩ = some (zs.getD m undef) := by
        refine hrowj.cell ?_
        rw [List.getElem?_toArray, show k - j = m + 1 from by omega]
        unfold fillR
        rw [List.getElem?_append_left (by rw [List.length_take, HZL.out]; omega), List.getElem?_take, if_pos (by omega)]
        simp [List.getElem?_eq_getElem (show m < zs.length by rw [HZL.out]; omega)]
      have hf := hrowj.free m
      have hmi : (k : Int) - 1 - (j : Int) = m := by omega
      have hm1 : (m : Int) < (k : Int) := by omega
      have hset := hrowj.set m (.int .u8 ((n / 256 ^ j % 256 : Nat) : Int))
      rw [List.setIfInBounds_toArray, show k - j = m + 1 from by omega, fillR_unset _ _ _ (by rw [HYL.out, HZL.out]) (by rw [HYL.out]; omega) _ hy] at hset
      rw [hv] at hset
      have HS := Lib.hid hset
      have HM := Lib.hid hm
      have HYm := Lib.hid hy
      clear hset hm hy hv
      go_wp2_with fail
      go_roundw
      case rel => exact ⟨j + 1, by omega, by go_num, by rw [show k - (j + 1) = m from by have := HM.out; omega]; exact HS.out, hbj.setCell (by exact hg1) _⟩
      case measure => simp [intOf]; omega
    · go_wp2_with fail
      go_ret
      obtain rfl : j = k := by omega
      rw [Nat.sub_self, fillR_zero, HY.out] at hrowj
      exact RetS.of_row hrowj hg1 hbj (by rw [big_length]; omega) (by rw [big_length])
end Go.Proofs.Ytfinekmegiengaa
/- The walks of layer 1's reference: bytes the other way round, the number of bytes, bytes xored, are both the same. -/
namespace Go.Proofs.Ytfinekmegiengaa
open Go.RowKit Nep
set_option maxRecDepth 100000
set_option linter.unusedVariables false

theorem rback_calls (v : Value) (l : List Nat) (w : World) (hl : Bytes l) (hr : RdB w.heap.size w v l) (hn : l.length ≤ 140737488351232) :
    Calls Try.prog 107 #[v] w (RetS l.reverse w) := by
  obtain ⟨ys, hys⟩ : ∃ ys, ys = l.reverse := ⟨_, rfl⟩
  have hyl : ys.length = l.length := by rw [hys]; simp
  have HY := Lib.hid hys
  have HYL := Lib.hid hyl
  rw [← hys]
  clear hys hyl
  go_enter Try.func107, Try.ntmps107
  have hr0 := hr
  go_wp2_with (first | (apply wpList_buildB []; exact of_decide_eq_true rfl; rfl; rfl; rfl; intro g0 w0 hg01 hg02 hown0 hb0; replace hr := hr.mono hb0) | (refine wpList_lenB hr rfl rfl rfl ?_))
  go_loopw [3, 4] (fun s i wr => ∃ k : Nat, k ≤ l.length ∧ i = .int .i64 ((l.length : Int) - 1 - k) ∧ wr.ownsRow w.heap.size 5 1 s (ys.take k).length (bv (ys.take k)) ∧ Below w.heap.size w wr) (fun _ i _ => (intOf i + 1).toNat)
  case atStart => exact ⟨0, by omega, by go_num, hown0, hb0⟩
  case round =>
    obtain ⟨k, hk, rfl, hown, hbk⟩ := hrel
    clear hown0 hr
    have hrk := hr0.mono hbk
    by_cases hlt : k < l.length
    · obtain ⟨j, hj⟩ : ∃ j, j = l.length - 1 - k := ⟨_, rfl⟩
      obtain ⟨x, hx⟩ : ∃ x, x = l.getD j 0 := ⟨_, rfl⟩
      have e1 : ((l.getD j 0 : Nat) : Int) = x := by rw [hx]
      have hs : ys.take (k + 1) = ys.take k ++ [x] := by
        rw [take_succ_getD _ _ (by have := HYL.out; omega), HY.out, hx, hj]
        congr 2
        simp [List.getElem?_reverse hlt]
      have hji0 : (l.length : Int) - 1 - (k : Int) = j := by omega
      have HJI := Lib.hid hji0
      have hj0 : j < l.length := by omega
      have hbs := hbk.size
      have htl : (ys.take k).length = k := by rw [List.length_take, HYL.out]; omega
      have HS := Lib.hid hs
      have HX := Lib.hid hx
      have HJ := Lib.hid hj
      have HTL := Lib.hid htl
      have HE := Lib.hid e1
      clear hs hx hj htl e1 hji0
      go_wp2_with (first | (apply wpList_indexB hrk j hj0; rfl; rfl; rfl; rfl; exact HJI.out; rw [HE.out]; intro p hp hcell) | (apply wpList_buildB [x]; exact of_decide_eq_true rfl; rfl; rfl; rfl; intro gb wb hgb1 hgb2 hob hbb) | (at_builtin; apply wpList_appendB (own_next hown hbb) (RdB.of_own hob); rfl; rfl; rfl; rfl; rw [HTL.out]; simp; omega; omega; intro v' w' hown' hgr'))
      have hb' := below_own hgr' (own_next hown hbb) (Nat.le_refl _) (by omega)
      go_roundw
      case rel => exact ⟨k + 1, by omega, by go_num, by rw [HS.out]; exact hown', hbk.trans ((hbb.mono hbs).trans hb')⟩
      case measure => simp [intOf]; omega
    · go_wp2_with fail
      go_ret
      obtain rfl : k = l.length := by omega
      rw [List.take_of_length_le (by rw [HYL.out]; exact Nat.le_refl _)] at hown
      exact ⟨_, rfl, hown, hbk⟩

theorem numLittle_calls (v : Value) (l : List Nat) (w : World) (hl : Bytes l) {B : Nat} (hr : RdB B w v l) (h8 : l.length ≤ 8) :
    Calls Try.prog 106 #[v] w (RetP (.int .u64 (num l.reverse)) w) := by
  obtain ⟨ys, hys⟩ : ∃ ys, ys = l.reverse := ⟨_, rfl⟩
  have hyl : ys.length = l.length := by rw [hys]; simp
  have hyb : Bytes ys := fun x hx => hl x (by rw [hys] at hx; simpa using hx)
  have HY := Lib.hid hys
  have HYL := Lib.hid hyl
  rw [← hys]
  clear hys hyl
  have hmn : ∀ w, (Builtin.min_ #[3, 3] 3 #[.int .i64 7, .int .i64 ((l.length : Int) - 1)]).run Try.prog w = .ok (.int .i64 ((l.length : Int) - 1)) w := fun w => by
    rw [run_min2]
    by_cases h : (l.length : Int) - 1 < 7
    · rw [if_pos h]
    · rw [if_neg h, show (l.length : Int) - 1 = 7 from by omega]
  go_enter Try.func106, Try.ntmps106
  go_wp2_with (first | (refine wpList_lenB hr rfl rfl rfl ?_))
  go_loop [3, 4] (fun n i => ∃ k : Nat, k ≤ l.length ∧ i = .int .i64 ((l.length : Int) - 1 - k) ∧ n = .int .u64 (num (ys.take k))) (fun _ i => (intOf i + 1).toNat)
  case atStart => exact ⟨0, by omega, by go_num, rfl⟩
  case round =>
    obtain ⟨k, hk, rfl, rfl⟩ := hrel
    by_cases hlt : k < l.length
    · obtain ⟨j, hj⟩ : ∃ j, j = l.length - 1 - k := ⟨_, rfl⟩
      obtain ⟨x, hx⟩ : ∃ x, x = l.getD j 0 := ⟨_, rfl⟩
      have hx8 : x < 256 := hx ▸ hl.get j
      have e1 : ((l.getD j 0 : Nat) : Int) = x := by rw [hx]
      have hN := numF_take_lt ys hyb k (by omega)
      obtain ⟨N, hNe⟩ : ∃ N, N = num (ys.take k) := ⟨_, rfl⟩
      rw [← hNe] at hN ⊢
      have hs : num (ys.take (k + 1)) = N * 256 + x := by
        rw [take_succ_getD _ _ (by have := HYL.out; omega), num, numF_snoc, hNe]
        congr 1
        rw [HY.out, hx, hj]
        simp [List.getElem?_reverse hlt]
      have hji : (l.length : Int) - 1 - (k : Int) = j := by omega
      have hj0 : j < l.length := by omega
      have HS := Lib.hid hs
      have HJ := Lib.hid hji
      have HE := Lib.hid e1
      clear hs hx hj hji e1 hNe hmn
      go_wp2_with (first | (apply wpList_indexB hr j hj0; rfl; rfl; rfl; rfl; exact HJ.out; rw [HE.out]; intro p hp hcell))
      go_round
      case rel => exact ⟨k + 1, by omega, by go_num, by rw [HS.out]; go_num⟩
      case measure => simp [intOf]; omega
    · go_wp2_with fail
      go_ret
      obtain rfl : k = l.length := by omega
      exact RetP.mk (val_int (by rw [List.take_of_length_le (by rw [HYL.out]; exact Nat.le_refl _)]))

theorem rnum_calls (v : Value) (l : List Nat) (w : World) (hl : Bytes l) (hr : RdB w.heap.size w v l) (h8 : l.length ≤ 8) :
    Calls Try.prog 41 #[v] w (RetB (.int .u64 (num l)) w) := by
  have C1 := Lib.hid (fun w h => rback_calls v l w hl h (by omega))
  have hlr : Bytes l.reverse := fun x hx => hl x (by simpa using hx)
  go_enter Try.func41, Try.ntmps41
  go_wp2_with (first | (go_at_call 107; refine (C1.out _ hr).mono ?_; rintro e w1 ⟨v1, rfl, ho, hb⟩) | (go_at_call 106; refine (numLittle_calls _ _ _ hlr (RdB.of_own ho) (by simpa using h8)).mono ?_; rintro e w2 ⟨rfl, rfl⟩))
  go_ret
  exact RetB.mk (by simp) hb

theorem rxor_calls (v1 v2 : Value) (a b : List Nat) (w : World) (ha : Bytes a) (hb : Bytes b) (hr1 : RdB w.heap.size w v1 a) (hr2 : RdB w.heap.size w v2 b) (hab : a.length = b.length) (hn : a.length ≤ 140737488351232) :
    Calls Try.prog 105 #[v1, v2] w (RetS (xorL a b) w) := by
  obtain ⟨ys, hys⟩ : ∃ ys, ys = xorL a b := ⟨_, rfl⟩
  have hyl : ys.length = a.length := by rw [hys, xorL_length _ _ hab]
  have HY := Lib.hid hys
  have HYL := Lib.hid hyl
  have HAB := Lib.hid hab
  rw [← hys]
  clear hys hyl hab
  have hr10 := hr1
  have hr20 := hr2
  go_enter Try.func105, Try.ntmps105
  go_wp2_with (first | (apply wpList_buildB []; exact of_decide_eq_true rfl; rfl; rfl; rfl; intro g0 w0 hg01 hg02 hown0 hb0))
  clear hr1 hr2
  go_loopw [5, 6] (fun s i wr => ∃ k : Nat, k ≤ a.length ∧ i = .int .i64 k ∧ wr.ownsRow w.heap.size 5 1 s (ys.take k).length (bv (ys.take k)) ∧ Below w.heap.size w wr) (fun _ i _ => a.length - (intOf i).toNat)
  case atStart => exact ⟨0, by omega, rfl, hown0, hb0⟩
  case round =>
    obtain ⟨k, hk, rfl, hown, hbk⟩ := hrel
    clear hown0
    have hrk1 := hr10.mono hbk
    have hrk2 := hr20.mono hbk
    by_cases hlt : k < a.length
    · obtain ⟨ad1, c1, rfl, hB1, hE1, hc1⟩ := hrk1.at hlt
      obtain ⟨ad2, c2, rfl, hB2, hE2, hc2⟩ := hrk2.at (k := k) (by have := HAB.out; omega)
      obtain ⟨x, hx⟩ : ∃ x, x = a.getD k 0 := ⟨_, rfl⟩
      obtain ⟨y, hy⟩ : ∃ y, y = b.getD k 0 := ⟨_, rfl⟩
      have hx8 : x < 256 := hx ▸ ha.get k
      have hy8 : y < 256 := hy ▸ hb.get k
      have hs : ys.take (k + 1) = ys.take k ++ [x ^^^ y] := by
        rw [take_succ_getD _ _ (by have := HYL.out; omega), HY.out, xorL_get _ _ _ hlt (by have := HAB.out; omega), hx, hy]
      rw [← hx] at hc1
      rw [← hy] at hc2
      have hxy := u8_xor_nat x y hx8 hy8
      have hl2 : (k : Int) < (b.length : Int) := by have := HAB.out; omega
      have hl1 : (k : Int) < (a.length : Int) := by omega
      have hk0 : (0 : Int) ≤ (k : Int) := by omega
      have hbs := hbk.size
      have htl : (ys.take k).length = k := by rw [List.length_take, HYL.out]; omega
      have HS := Lib.hid hs
      have HTL := Lib.hid htl
      clear hs hx hy htl
      go_wp2_with (first | (refine wpList_lenB hrk1 rfl rfl rfl ?_))
      clear hrk1 hrk2
      rw [← hE1] at hB1
      rw [← hE2] at hB2
      clear hE1 hE2
      go_region_held3 (fun w' => w'.cell? (ad1.add k) = some (.int .u8 x) ∧ w'.cell? (ad2.add k) = some (.int .u8 y)) (first | exact ⟨hc1, hc2⟩ | exact ⟨d1, d2⟩ | exact ⟨cell_alloc' hc1 _, cell_alloc' hc2 _⟩)
        (first | (apply step_appendB (own_alloc' (w := wr.drew) hown _) (RdB.lit wr.drew [x ^^^ y] 1 rfl); rfl; rfl; rfl; rfl; rw [HTL.out]; simp; omega; simp; omega; intro v' w' hown' hgr'; have hb' := below_own hgr' (own_alloc' (w := wr.drew) hown _) (Nat.le_refl _) (by simp; omega); have d1 := (hb'.cell hB1).trans (cell_alloc' (w := wr.drew) hc1 _); have d2 := (hb'.cell hB2).trans (cell_alloc' (w := wr.drew) hc2 _)))
      have hb2 : Below w.heap.size w w' := hbk.trans (((Below.refl _ _).drew.alloc (by simp; omega) _).trans hb')
      clear hb' d1 d2 hc1 hc2 hgr'
      go_wp2
      go_roundw
      case rel => exact ⟨k + 1, by omega, by go_num, by rw [HS.out]; exact hown', hb2⟩
      case measure => simp [intOf]; omega
    · go_wp2_with (first | (refine wpList_lenB hrk1 rfl rfl rfl ?_))
      go_ret
      obtain rfl : k = a.length := by omega
      rw [List.take_of_length_le (by rw [HYL.out]; exact Nat.le_refl _)] at hown
      exact ⟨_, rfl, hown, hbk⟩
end Go.Proofs.Ytfinekmegiengaa
/- The walk of layer 1's reference: are both the same? -/
namespace Go.Proofs.Ytfinekmegiengaa
open Go.RowKit Nep
set_option maxRecDepth 100000
set_option linter.unusedVariables false

theorem below_drewN {B : Nat} {w w' : World} (h : Below B w w') (n : Nat) : Below B w (w'.drewN n) := ⟨h.os, h.tape, h.output, h.size, h.block⟩
theorem eq_of_getD {a b : List Nat} (hab : a.length = b.length) (h : ∀ i, i < a.length → a.getD i 0 = b.getD i 0) : a = b := by
  apply List.ext_getElem hab
  intro i h1 h2
  have := h i h1
  simpa [List.getElem?_eq_getElem h1, List.getElem?_eq_getElem h2] using this

theorem same_calls (v1 v2 : Value) (a b : List Nat) (w : World) (hr1 : RdB w.heap.size w v1 a) (hr2 : RdB w.heap.size w v2 b) (hn : a.length ≤ 140737488351232) :
    Calls Try.prog 43 #[v1, v2] w (RetB (.bool (decide (a = b))) w) := by
  by_cases hab : a.length = b.length
  · have hng : ((a.length : Int) != (b.length : Int)) = false := by rw [hab]; simp
    have HAB := Lib.hid hab
    clear hab
    have hr10 := hr1
    have hr20 := hr2
    go_enter Try.func43, Try.ntmps43
    go_wp2_with (first | (refine wpList_lenB hr1 rfl rfl rfl ?_) | (refine wpList_lenB hr2 rfl rfl rfl ?_))
    clear hr1 hr2
    go_loopw [5] (fun i wr => ∃ k : Nat, k ≤ a.length ∧ i = .int .i64 k ∧ Hid (∀ i, i < k → a.getD i 0 = b.getD i 0) ∧ Below w.heap.size w wr) (fun i _ => a.length - (intOf i).toNat)
    case atStart => exact ⟨0, by omega, rfl, fun i hi => absurd hi (by omega), Below.refl _ _⟩
    case round =>
      obtain ⟨k, hk, rfl, hal, hbk⟩ := hrel
      have hrk1 := hr10.mono hbk
      have hrk2 := hr20.mono hbk
      by_cases hlt : k < a.length
      · obtain ⟨ad1, c1, rfl, _, _, hc1⟩ := hrk1.at hlt
        obtain ⟨ad2, c2, rfl, _, _, hc2⟩ := hrk2.at (k := k) (by have := HAB.out; omega)
        obtain ⟨x, hx⟩ : ∃ x, x = a.getD k 0 := ⟨_, rfl⟩
        obtain ⟨y, hy⟩ : ∃ y, y = b.getD k 0 := ⟨_, rfl⟩
        rw [← hx] at hc1
        rw [← hy] at hc2
        have hl2 : (k : Int) < (b.length : Int) := by have := HAB.out; omega
        have hl1 : (k : Int) < (a.length : Int) := by omega
        have hk0 : (0 : Int) ≤ (k : Int) := by omega
        have HX := Lib.hid hx
        have HY := Lib.hid hy
        clear hx hy
        by_cases hxy : x = y
        · have hnx : ((x : Int) != (y : Int)) = false := by rw [hxy]; simp
          have HXY := Lib.hid hxy
          clear hxy
          go_wp2_with (first | (refine wpList_lenB hrk1 rfl rfl rfl ?_))
          clear hrk1 hrk2
          go_quiet (fail)
          go_wp2
          go_roundw
          case rel => exact ⟨k + 1, by omega, by go_num, fun i hi => by
            by_cases h : i < k
            · exact hal.out i h
            · obtain rfl : i = k := by omega
              rw [← HX.out, ← HY.out]; exact HXY.out, below_drewN hbk _⟩
          case measure => simp [intOf]; omega
        · have hnx : ((x : Int) != (y : Int)) = true := by simp; omega
          go_wp2_with (first | (refine wpList_lenB hrk1 rfl rfl rfl ?_))
          clear hrk1 hrk2
          go_quiet (fail)
          go_wp2
          go_ret
          refine RetB.mk (val_bool ?_) (below_drewN hbk _)
          refine (decide_eq_false ?_).symm
          intro h
          apply hxy
          rw [HX.out, HY.out, h]
      · go_wp2_with (first | (refine wpList_lenB hrk1 rfl rfl rfl ?_))
        go_ret
        refine RetB.mk (val_bool ?_) hbk
        refine (decide_eq_true ?_).symm
        exact eq_of_getD HAB.out fun i hi => hal.out i (by omega)
  · have hng : ((a.length : Int) != (b.length : Int)) = true := by simp; omega
    go_enter Try.func43, Try.ntmps43
    go_wp2_with (first | (refine wpList_lenB hr1 rfl rfl rfl ?_) | (refine wpList_lenB hr2 rfl rfl rfl ?_))
    go_ret
    refine RetB.mk (val_bool ?_) (Below.refl _ _)
    refine (decide_eq_false ?_).symm
    intro h
    exact hab (by rw [h])
end Go.Proofs.Ytfinekmegiengaa
