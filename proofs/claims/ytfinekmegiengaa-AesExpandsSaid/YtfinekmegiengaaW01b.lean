/- The walks of layer 1's reference: bytes the other way round, the number of bytes, bytes xored, are both the same. -/
import Derived.Test.YtfinekmegiengaaW01
import Derived.Deep.RegionHeld3
namespace Go.Proofs.Ytfinekmegiengaa
open Go.RowKit Nep
set_option maxRecDepth 100000
set_option linter.unusedVariables false

theorem rback_calls (v : Value) (l : List Nat) (w : World) (hl : Bytes l) (hr : RdB w.heap.size w v l) (hn : l.length ≤ 140737488351232) :
    Calls Try.prog 107 #[v] w (RetS l.reverse w) := by
  obtain ⟨ys, hys⟩ : ∃ ys, ys = l.reverse := ⟨_, rfl⟩
  have hyl : ys.length = l.length := by rw [hys]; simp
  have HY := Lib.hid hys
  have HYL := Lib.hid hyl
  rw [← hys]
  clear hys hyl
  go_enter Try.func107, Try.ntmps107
  have hr0 := hr
  go_wp2_with (first | (apply wpList_buildB []; exact of_decide_eq_true rfl; rfl; rfl; rfl; intro g0 w0 hg01 hg02 hown0 hb0; replace hr := hr.mono hb0) | (refine wpList_lenB hr rfl rfl rfl ?_))
  go_loopw [3, 4] (fun s i wr => ∃ k : Nat, k ≤ l.length ∧ i = .int .i64 ((l.length : Int) - 1 - k) ∧ wr.ownsRow w.heap.size 5 1 s (ys.take k).length (bv (ys.take k)) ∧ Below w.heap.size w wr) (fun _ i _ => (intOf i + 1).toNat)
  case atStart => exact ⟨0, by omega, by go_num, hown0, hb0⟩
  case round =>
    obtain ⟨k, hk, rfl, hown, hbk⟩ := hrel
    clear hown0 hr
    have hrk := hr0.mono hbk
    by_cases hlt : k < l.length
    · obtain ⟨j, hj⟩ : ∃ j, j = l.length - 1 - k := ⟨_, rfl⟩
      obtain ⟨x, hx⟩ : ∃ x, x = l.getD j 0 := ⟨_, rfl⟩
      have e1 : ((l.getD j 0 : Nat) : Int) = x := by rw [hx]
      have hs : ys.take (k + 1) = ys.take k ++ [x] := by
        rw [take_succ_getD _ _ (by have := HYL.out; omega), HY.out, hx, hj]
        congr 2
        simp [List.getElem?_reverse hlt]
      have hji0 : (l.length : Int) - 1 - (k : Int) = j := by omega
      have HJI := Lib.hid hji0
      have hj0 : j < l.length := by omega
      have hbs := hbk.size
      have htl : (ys.take k).length = k := by rw [List.length_take, HYL.out]; omega
      have HS := Lib.hid hs
      have HX := Lib.hid hx
      have HJ := Lib.hid hj
      have HTL := Lib.hid htl
      have HE := Lib.hid e1
      clear hs hx hj htl e1 hji0
      go_wp2_with (first | (apply wpList_indexB hrk j hj0; rfl; rfl; rfl; rfl; exact HJI.out; rw [HE.out]; intro p hp hcell) | (apply wpList_buildB [x]; exact of_decide_eq_true rfl; rfl; rfl; rfl; intro gb wb hgb1 hgb2 hob hbb) | (at_builtin; apply wpList_appendB (own_next hown hbb) (RdB.of_own hob); rfl; rfl; rfl; rfl; rw [HTL.out]; simp; omega; omega; intro v' w' hown' hgr'))
      have hb' := below_own hgr' (own_next hown hbb) (Nat.le_refl _) (by omega)
      go_roundw
      case rel => exact ⟨k + 1, by omega, by go_num, by rw [HS.out]; exact hown', hbk.trans ((hbb.mono hbs).trans hb')⟩
      case measure => simp [intOf]; omega
    · go_wp2_with fail
      go_ret
      obtain rfl : k = l.length := by omega
      rw [List.take_of_length_le (by rw [HYL.out]; exact Nat.le_refl _)] at hown
      exact ⟨_, rfl, hown, hbk⟩

theorem numLittle_calls (v : Value) (l : List Nat) (w : World) (hl : Bytes l) {B : Nat} (hr : RdB B w v l) (h8 : l.length ≤ 8) :
    Calls Try.prog 106 #[v] w (RetP (.int .u64 (num l.reverse)) w) := by
  obtain ⟨ys, hys⟩ : ∃ ys, ys = l.reverse := ⟨_, rfl⟩
  have hyl : ys.length = l.length := by rw [hys]; simp
  have hyb : Bytes ys := fun x hx => hl x (by rw [hys] at hx; simpa using hx)
  have HY := Lib.hid hys
  have HYL := Lib.hid hyl
  rw [← hys]
  clear hys hyl
  have hmn : ∀ w, (Builtin.min_ #[3, 3] 3 #[.int .i64 7, .int .i64 ((l.length : Int) - 1)]).run Try.prog w = .ok (.int .i64 ((l.length : Int) - 1)) w := fun w => by
    rw [run_min2]
    by_cases h : (l.length : Int) - 1 < 7
    · rw [if_pos h]
    · rw [if_neg h, show (l.length : Int) - 1 = 7 from by omega]
  go_enter Try.func106, Try.ntmps106
  go_wp2_with (first | (refine wpList_lenB hr rfl rfl rfl ?_))
  go_loop [3, 4] (fun n i => ∃ k : Nat, k ≤ l.length ∧ i = .int .i64 ((l.length : Int) - 1 - k) ∧ n = .int .u64 (num (ys.take k))) (fun _ i => (intOf i + 1).toNat)
  case atStart => exact ⟨0, by omega, by go_num, rfl⟩
  case round =>
    obtain ⟨k, hk, rfl, rfl⟩ := hrel
    by_cases hlt : k < l.length
    · obtain ⟨j, hj⟩ : ∃ j, j = l.length - 1 - k := ⟨_, rfl⟩
      obtain ⟨x, hx⟩ : ∃ x, x = l.getD j 0 := ⟨_, rfl⟩
      have hx8 : x < 256 := hx ▸ hl.get j
      have e1 : ((l.getD j 0 : Nat) : Int) = x := by rw [hx]
      have hN := numF_take_lt ys hyb k (by omega)
      obtain ⟨N, hNe⟩ : ∃ N, N = num (ys.take k) := ⟨_, rfl⟩
      rw [← hNe] at hN ⊢
      have hs : num (ys.take (k + 1)) = N * 256 + x := by
        rw [take_succ_getD _ _ (by have := HYL.out; omega), num, numF_snoc, hNe]
        congr 1
        rw [HY.out, hx, hj]
        simp [List.getElem?_reverse hlt]
      have hji : (l.length : Int) - 1 - (k : Int) = j := by omega
      have hj0 : j < l.length := by omega
      have HS := Lib.hid hs
      have HJ := Lib.hid hji
      have HE := Lib.hid e1
      clear hs hx hj hji e1 hNe hmn
      go_wp2_with (first | (apply wpList_indexB hr j hj0; rfl; rfl; rfl; rfl; exact HJ.out; rw [HE.out]; intro p hp hcell))
      go_round
      case rel => exact ⟨k + 1, by omega, by go_num, by rw [HS.out]; go_num⟩
      case measure => simp [intOf]; omega
    · go_wp2_with fail
      go_ret
      obtain rfl : k = l.length := by omega
      exact RetP.mk (val_int (by rw [List.take_of_length_le (by rw [HYL.out]; exact Nat.le_refl _)]))

theorem rnum_calls (v : Value) (l : List Nat) (w : World) (hl : Bytes l) (hr : RdB w.heap.size w v l) (h8 : l.length ≤ 8) :
    Calls Try.prog 41 #[v] w (RetB (.int .u64 (num l)) w) := by
  have C1 := Lib.hid (fun w h => rback_calls v l w hl h (by omega))
  have hlr : Bytes l.reverse := fun x hx => hl x (by simpa using hx)
  go_enter Try.func41, Try.ntmps41
  go_wp2_with (first | (go_at_call 107; refine (C1.out _ hr).mono ?_; rintro e w1 ⟨v1, rfl, ho, hb⟩) | (go_at_call 106; refine (numLittle_calls _ _ _ hlr (RdB.of_own ho) (by simpa using h8)).mono ?_; rintro e w2 ⟨rfl, rfl⟩))
  go_ret
  exact RetB.mk (by simp) hb

theorem rxor_calls (v1 v2 : Value) (a b : List Nat) (w : World) (ha : Bytes a) (hb : Bytes b) (hr1 : RdB w.heap.size w v1 a) (hr2 : RdB w.heap.size w v2 b) (hab : a.length = b.length) (hn : a.length ≤ 140737488351232) :
    Calls Try.prog 105 #[v1, v2] w (RetS (xorL a b) w) := by
  obtain ⟨ys, hys⟩ : ∃ ys, ys = xorL a b := ⟨_, rfl⟩
  have hyl : ys.length = a.length := by rw [hys, xorL_length _ _ hab]
  have HY := Lib.hid hys
  have HYL := Lib.hid hyl
  have HAB := Lib.hid hab
  rw [← hys]
  clear hys hyl hab
  have hr10 := hr1
  have hr20 := hr2
  go_enter Try.func105, Try.ntmps105
  go_wp2_with (first | (apply wpList_buildB []; exact of_decide_eq_true rfl; rfl; rfl; rfl; intro g0 w0 hg01 hg02 hown0 hb0))
  clear hr1 hr2
  go_loopw [5, 6] (fun s i wr => ∃ k : Nat, k ≤ a.length ∧ i = .int .i64 k ∧ wr.ownsRow w.heap.size 5 1 s (ys.take k).length (bv (ys.take k)) ∧ Below w.heap.size w wr) (fun _ i _ => a.length - (intOf i).toNat)
  case atStart => exact ⟨0, by omega, rfl, hown0, hb0⟩
  case round =>
    obtain ⟨k, hk, rfl, hown, hbk⟩ := hrel
    clear hown0
    have hrk1 := hr10.mono hbk
    have hrk2 := hr20.mono hbk
    by_cases hlt : k < a.length
    · obtain ⟨ad1, c1, rfl, hB1, hE1, hc1⟩ := hrk1.at hlt
      obtain ⟨ad2, c2, rfl, hB2, hE2, hc2⟩ := hrk2.at (k := k) (by have := HAB.out; omega)
      obtain ⟨x, hx⟩ : ∃ x, x = a.getD k 0 := ⟨_, rfl⟩
      obtain ⟨y, hy⟩ : ∃ y, y = b.getD k 0 := ⟨_, rfl⟩
      have hx8 : x < 256 := hx ▸ ha.get k
      have hy8 : y < 256 := hy ▸ hb.get k
      have hs : ys.take (k + 1) = ys.take k ++ [x ^^^ y] := by
        rw [take_succ_getD _ _ (by have := HYL.out; omega), HY.out, xorL_get _ _ _ hlt (by have := HAB.out; omega), hx, hy]
      rw [← hx] at hc1
      rw [← hy] at hc2
      have hxy := u8_xor_nat x y hx8 hy8
      have hl2 : (k : Int) < (b.length : Int) := by have := HAB.out; omega
      have hl1 : (k : Int) < (a.length : Int) := by omega
      have hk0 : (0 : Int) ≤ (k : Int) := by omega
      have hbs := hbk.size
      have htl : (ys.take k).length = k := by rw [List.length_take, HYL.out]; omega
      have HS := Lib.hid hs
      have HTL := Lib.hid htl
      clear hs hx hy htl
      go_wp2_with (first | (refine wpList_lenB hrk1 rfl rfl rfl ?_))
      clear hrk1 hrk2
      rw [← hE1] at hB1
      rw [← hE2] at hB2
      clear hE1 hE2
      go_region_held3 (fun w' => w'.cell? (ad1.add k) = some (.int .u8 x) ∧ w'.cell? (ad2.add k) = some (.int .u8 y)) (first | exact ⟨hc1, hc2⟩ | exact ⟨d1, d2⟩ | exact ⟨cell_alloc' hc1 _, cell_alloc' hc2 _⟩)
        (first | (apply step_appendB (own_alloc' (w := wr.drew) hown _) (RdB.lit wr.drew [x ^^^ y] 1 rfl); rfl; rfl; rfl; rfl; rw [HTL.out]; simp; omega; simp; omega; intro v' w' hown' hgr'; have hb' := below_own hgr' (own_alloc' (w := wr.drew) hown _) (Nat.le_refl _) (by simp; omega); have d1 := (hb'.cell hB1).trans (cell_alloc' (w := wr.drew) hc1 _); have d2 := (hb'.cell hB2).trans (cell_alloc' (w := wr.drew) hc2 _)))
      have hb2 : Below w.heap.size w w' := hbk.trans (((Below.refl _ _).drew.alloc (by simp; omega) _).trans hb')
      clear hb' d1 d2 hc1 hc2 hgr'
      go_wp2
      go_roundw
      case rel => exact ⟨k + 1, by omega, by go_num, by rw [HS.out]; exact hown', hb2⟩
      case measure => simp [intOf]; omega
    · go_wp2_with (first | (refine wpList_lenB hrk1 rfl rfl rfl ?_))
      go_ret
      obtain rfl : k = a.length := by omega
      rw [List.take_of_length_le (by rw [HYL.out]; exact Nat.le_refl _)] at hown
      exact ⟨_, rfl, hown, hbk⟩
end Go.Proofs.Ytfinekmegiengaa
