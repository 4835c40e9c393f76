/- The walks of layer 1: numbers of bytes, bytes of numbers. -/
import Derived.Test.YtfinekmegiengaaMem4
import Derived.Test.YtfinekmegiengaaPlainC
import Derived.Outline
namespace Go.Proofs.Ytfinekmegiengaa
open Go.RowKit Nep
set_option maxRecDepth 100000
set_option linter.unusedVariables false

theorem take_succ_getD (l : List Nat) (k : Nat) (h : k < l.length) : l.take (k + 1) = l.take k ++ [l.getD k 0] := by
  rw [List.take_succ_eq_append_getElem h]
  simp [List.getElem?_eq_getElem h]
theorem numF_snoc (l : List Nat) (n x : Nat) : numF n (l ++ [x]) = numF n l * 256 + x := by rw [numF_append]; rfl
theorem numF_take_lt (l : List Nat) (hl : Bytes l) (k : Nat) (hk : k < 8) : num (l.take k) < 72057594037927936 := by
  have h := num_lt (l.take k) (hl.take k)
  have h2 : 256 ^ (l.take k).length ≤ 256 ^ 7 := Nat.pow_le_pow_right (by omega) (by rw [List.length_take]; omega)
  omega
theorem u64_join (x y i : Nat) {X Y : Int} (hx : x < 18446744073709551616) (hy : y < 18446744073709551616) (hm : x % 2 ^ i = 0) (hl : y < 2 ^ i) (hX : X = x) (hY : Y = y) :
    bits .or .u64 X Y = ((x + y : Nat) : Int) := by
  subst hX; subst hY
  rw [u64_or_nat x y hx hy, nat_join i x y hm hl]

theorem run_max2 {P : Program} {ts : Array TypeId} {ty : TypeId} {k : IntKind} (x y : Int) (w : World) : (Builtin.max_ ts ty #[.int k x, .int k y]).run P w = .ok (.int k (if y > x then y else x)) w := by
  simp [Builtin.max_, Builtin.max2]
theorem run_min2 {P : Program} {ts : Array TypeId} {ty : TypeId} {k : IntKind} (x y : Int) (w : World) : (Builtin.min_ ts ty #[.int k x, .int k y]).run P w = .ok (.int k (if y < x then y else x)) w := by
  simp [Builtin.min_, Builtin.min2]

theorem num_calls (v : Value) (l : List Nat) (w : World) (hl : Bytes l) {B : Nat} (hr : RdB B w v l) (h8 : l.length ≤ 8) :
    Calls Try.prog 100 #[v] w (RetP (.int .u64 (num l)) w) := by
  have hmx : ∀ w, (Builtin.max_ #[3, 3] 3 #[.int .i64 0, .int .i64 ((l.length : Int) - 8)]).run Try.prog w = .ok (.int .i64 0) w := fun w => by
    rw [run_max2, if_neg (by omega)]
  go_enter Try.func100, Try.ntmps100
  go_wp2_with (first | (refine wpList_lenB hr rfl rfl rfl ?_) | (refine wpList_lenB hr' rfl rfl rfl ?_) | (apply wpList_cutB hr 0 l.length; rfl; rfl; rfl; exact .inr ⟨_, _, rfl, rfl⟩; exact .inl ⟨rfl, rfl, rfl⟩; exact .inl rfl; exact Nat.zero_le _; exact Nat.le_refl _; intro v' hr'; rw [List.drop_zero, Nat.sub_zero, List.take_length] at hr'))
  go_loop [3, 13] (fun n i => ∃ k : Nat, k ≤ l.length ∧ i = .int .i64 k ∧ n = .int .u64 (num (l.take k))) (fun _ i => l.length - (intOf i).toNat)
  case atStart => exact ⟨0, by omega, rfl, rfl⟩
  case round =>
    obtain ⟨k, hk, rfl, rfl⟩ := hrel
    by_cases hlt : k < l.length
    · obtain ⟨x, hx⟩ : ∃ x, x = l.getD k 0 := ⟨_, rfl⟩
      have hx8 : x < 256 := hx ▸ hl.get k
      have e1 : ((l.getD k 0 : Nat) : Int) = x := by rw [hx]
      have hN := numF_take_lt l hl k (by omega)
      obtain ⟨N, hNe⟩ : ∃ N, N = num (l.take k) := ⟨_, rfl⟩
      rw [← hNe] at hN ⊢
      have hs : num (l.take (k + 1)) = N * 256 + x := by rw [take_succ_getD l k hlt, num, numF_snoc, hNe, hx]; rfl
      have hj := u64_join (N * 256) x 8 (X := (N : Int) * 256) (Y := (x : Int)) (by omega) (by omega) (by omega) (by omega) (by omega) rfl
      have HS := Lib.hid hs
      clear hs hNe hx hmx
      go_wp2_with (first | (apply wpList_indexB hr' k hlt; rfl; rfl; rfl; rfl; rfl; rw [e1]; intro p hp hcell))
      go_round
      case rel => exact ⟨k + 1, by omega, by go_num, by rw [HS.out]; go_num⟩
      case measure => simp [intOf]; omega
    · go_wp2_with fail
      go_ret
      obtain rfl : k = l.length := by omega
      exact RetP.mk (val_int (by rw [List.take_length]))

theorem fillR_unset {α : Type} (ys zs : List α) (j : Nat) (h : ys.length = zs.length) (hj : j < ys.length) (y : α) (hy : ys[j]? = some y) : (fillR zs ys (j + 1)).set j y = fillR zs ys j := by
  apply List.ext_getElem?
  intro i
  unfold fillR
  rw [List.getElem?_set]
  by_cases hi : j = i
  · subst hi
    rw [if_pos rfl, if_pos (by simp; omega)]
    rw [List.getElem?_append_right (by simp; omega), List.getElem?_drop, ← hy]
    congr 1
    simp
    omega
  · rw [if_neg hi]
    by_cases hlt : i < j
    · rw [List.getElem?_append_left (by simp; omega), List.getElem?_append_left (by simp; omega), List.getElem?_take, List.getElem?_take, if_pos hlt, if_pos (by omega)]
    · rw [List.getElem?_append_right (by simp; omega), List.getElem?_append_right (by simp; omega), List.getElem?_drop, List.getElem?_drop]
      congr 1
      simp
      omega

theorem run_shr (n i : Nat) {K : IntKind} (hK : K.bits = 64) (hi : i ≤ 7) {J : IntKind} {Y : Int} (hY : Y = 8 * (i : Int)) (t : TypeId) (P : Program) (w : World) :
    (binOp .shr t (.int K (n : Int)) (.int J Y)).run P w = .ok (.int K ((n / 256 ^ i : Nat) : Int)) w := by
  subst hY
  have h1 : ¬ (8 * (i : Int) < 0) := by omega
  have h2 : (8 * (i : Int)).toNat = 8 * i := by omega
  have h3 : min (8 * i) 64 = 8 * i := by omega
  have h4 : (2 : Nat) ^ (8 * i) = 256 ^ i := by rw [Nat.pow_mul]
  have h5 : ((2 : Int) ^ (8 * i)) = ((256 ^ i : Nat) : Int) := by rw [← h4, Int.natCast_pow]; rfl
  have h6 : (n : Int).fdiv ((256 ^ i : Nat) : Int) = ((n / 256 ^ i : Nat) : Int) := by
    rw [Int.fdiv_eq_ediv_of_nonneg _ (Int.natCast_nonneg _), ← Int.natCast_ediv]
  have e : binOp .shr t (.int K (n : Int)) (.int J (8 * (i : Int))) = Pure.pure (.int K ((n / 256 ^ i : Nat) : Int)) := by
    simp only [binOp, Op.shift, if_neg h1, hK, h2, h3, h5, h6]
  rw [e]
  rfl

/-- the bytes of a number, the greatest first -/
theorem big_calls (n k : Nat) {N K : Int} (hN : N = n) (hK : K = k) (hn : n < 18446744073709551616) (hk : k ≤ 8) (w : World) :
    Calls Try.prog 103 #[.int .u64 N, .int .i64 K] w (RetS (big n k) w) := by
  subst hN hK
  have hmn : ∀ w, (Builtin.min_ #[3, 3] 3 #[.int .i64 8, .int .i64 (k : Int)]).run Try.prog w = .ok (.int .i64 k) w := fun w => by
    rw [run_min2]
    by_cases h : (k : Int) < 8
    · rw [if_pos h]
    · rw [if_neg h, show (k : Int) = 8 from by omega]
  have hmx : ∀ w, (Builtin.max_ #[3, 3] 3 #[.int .i64 0, .int .i64 (k : Int)]).run Try.prog w = .ok (.int .i64 k) w := fun w => by
    rw [run_max2]
    by_cases h : (k : Int) > 0
    · rw [if_pos h]
    · rw [if_neg h, show (k : Int) = 0 from by omega]
  obtain ⟨ys, hys⟩ : ∃ ys, ys = bv (big n k) := ⟨_, rfl⟩
  obtain ⟨zs, hzs⟩ : ∃ zs, zs = bv (List.replicate k 0) := ⟨_, rfl⟩
  have hyl : ys.length = k := by rw [hys, bv_length, big_length]
  have hzl : zs.length = k := by rw [hzs]; simp
  have HY := Lib.hid hys
  have HZ := Lib.hid hzs
  have HYL := Lib.hid hyl
  have HZL := Lib.hid hzl
  clear hys hzs hyl hzl
  go_enter Try.func103, Try.ntmps103
  go_wp2_with (first | (apply wpList_makeBytes (n := k); rfl; rfl; rfl; rfl; exact Nat.le_trans hk (by decide); intro g w1 hg1 hg2 hrow hb1))
  rw [← HZ.out] at hrow
  go_loopw [13] (fun i wr => ∃ j : Nat, j ≤ k ∧ i = .int .i64 j ∧ Row wr g 5 (fillR zs ys (k - j)).toArray ∧ Below w.heap.size w wr) (fun i _ => k - (intOf i).toNat)
  case atStart => exact ⟨0, by omega, rfl, by rw [Nat.sub_zero, fillR_full _ _ _ (by rw [HYL.out, HZL.out]) (by rw [HYL.out]; exact Nat.le_refl _)]; exact hrow, hb1⟩
  case round =>
    obtain ⟨j, hj, rfl, hrowj, hbj⟩ := hrel
    clear hrow hmx hmn
    by_cases hlt : j < k
    · obtain ⟨m, hm⟩ : ∃ m, m = k - 1 - j := ⟨_, rfl⟩
      have hv : ((n / 256 ^ j % 256 : Nat) : Int) = (n : Int) / 2 ^ (8 * j) % 256 := by
        rw [show 256 ^ j = 2 ^ (8 * j) from by rw [Nat.pow_mul]]
        simp
      have hy : ys[m]? = some (.int .u8 ((n / 256 ^ j % 256 : Nat) : Int)) := by
        rw [HY.out, bv_get _ _ (by rw [big_length]; omega)]
        unfold big
        simp [show m < k by omega]
        congr 3
        omega
      have hc : wr.cell? ⟨g, m, none⟩ = some (zs.getD m undef) := by
        refine hrowj.cell ?_
        rw [List.getElem?_toArray, show k - j = m + 1 from by omega]
        unfold fillR
        rw [List.getElem?_append_left (by rw [List.length_take, HZL.out]; omega), List.getElem?_take, if_pos (by omega)]
        simp [List.getElem?_eq_getElem (show m < zs.length by rw [HZL.out]; omega)]
      have hf := hrowj.free m
      have hmi : (k : Int) - 1 - (j : Int) = m := by omega
      have hm1 : (m : Int) < (k : Int) := by omega
      have hset := hrowj.set m (.int .u8 ((n / 256 ^ j % 256 : Nat) : Int))
      rw [List.setIfInBounds_toArray, show k - j = m + 1 from by omega, fillR_unset _ _ _ (by rw [HYL.out, HZL.out]) (by rw [HYL.out]; omega) _ hy] at hset
      rw [hv] at hset
      have HS := Lib.hid hset
      have HM := Lib.hid hm
      have HYm := Lib.hid hy
      clear hset hm hy hv
      go_wp2_with fail
      go_roundw
      case rel => exact ⟨j + 1, by omega, by go_num, by rw [show k - (j + 1) = m from by have := HM.out; omega]; exact HS.out, hbj.setCell (by exact hg1) _⟩
      case measure => simp [intOf]; omega
    · go_wp2_with fail
      go_ret
      obtain rfl : j = k := by omega
      rw [Nat.sub_self, fillR_zero, HY.out] at hrowj
      exact RetS.of_row hrowj hg1 hbj (by rw [big_length]; omega) (by rw [big_length])
end Go.Proofs.Ytfinekmegiengaa
