/- The walks of the references of layers 6 and 7: the table, the table turned, bytes put for, a round's key, rows shifted. -/
import Derived.Test.YtfinekmegiengaaW07a
import Derived.Test.YtfinekmegiengaaW01c
import Derived.Test.YtfinekmegiengaaMem7
import Derived.Test.YtfinekmegiengaaPlainE
import Derived.Test.YtfinekmegiengaaPlainB
import Derived.Test.YtfinekmegiengaaW06c
namespace Go.Proofs.Ytfinekmegiengaa
open Go.RowKit Nep
set_option maxRecDepth 100000
set_option linter.unusedVariables false
set_option maxHeartbeats 1000000

theorem rtable_calls (w : World) : Calls Try.prog 40 #[] w (RetS sboxL w) := by
  obtain ⟨ys, hys⟩ : ∃ ys, ys = sboxL := ⟨_, rfl⟩
  have hyl : ys.length = 256 := by rw [hys]; decide +kernel
  have hyg : ∀ k, ys.getD k 0 = sb k := fun k => by rw [hys]; rfl
  have HYL := Lib.hid hyl
  have HYG := Lib.hid hyg
  rw [← hys]
  clear hys hyl hyg
  go_enter Try.func40, Try.ntmps40
  go_wp2_with (first | (apply wpList_buildB []; exact of_decide_eq_true rfl; rfl; rfl; rfl; intro g0 w0 hg01 hg02 hown0 hb0))
  go_loopw [1, 2] (fun s i wr => ∃ k : Nat, k ≤ 256 ∧ i = .int .i64 k ∧ wr.ownsRow w.heap.size 5 1 s (ys.take k).length (bv (ys.take k)) ∧ Below w.heap.size w wr) (fun _ i _ => 256 - (intOf i).toNat)
  case atStart => exact ⟨0, by omega, rfl, hown0, hb0⟩
  case round =>
    obtain ⟨k, hk, rfl, hown, hbk⟩ := hrel
    clear hown0
    by_cases hlt : k < 256
    · have hs : ys.take (k + 1) = ys.take k ++ [sb k] := by rw [take_succ_getD _ _ (by rw [HYL.out]; exact hlt), HYG.out]
      have hbs := hbk.size
      have htl : (ys.take k).length = k := by rw [List.length_take, HYL.out]; omega
      have C1 : ∀ w, Calls Try.prog 30 #[.int .u8 (k : Int)] w (RetP (.int .u8 (sb k)) w) := fun w => by
        have h := sub06 k hlt w
        rwa [rsub_eq k hlt] at h
      have hc : (k : Int) % 256 = k := by omega
      have HS := Lib.hid hs
      have HTL := Lib.hid htl
      have HC1 := Lib.hid C1
      clear hs htl C1
      go_wp2_with (first
        | (go_at_call 30; refine (HC1.out _).mono ?_; rintro e w' ⟨rfl, rfl⟩)
        | (apply wpList_buildB [sb k]; exact of_decide_eq_true rfl; rfl; rfl; rfl; intro gb wb hgb1 hgb2 hob hbb)
        | (at_builtin; apply wpList_appendB (own_next hown hbb) (RdB.of_own hob); rfl; rfl; rfl; rfl; rw [HTL.out]; simp; omega; omega; intro v' w' hown' hgr'))
      have hb' := below_own hgr' (own_next hown hbb) (Nat.le_refl _) (by have := hbb.size; omega)
      go_roundw
      case rel => exact ⟨k + 1, by omega, by go_num, by rw [HS.out]; exact hown', hbk.trans ((hbb.mono hbs).trans hb')⟩
      case measure => simp [intOf]; omega
    · go_wp2_with fail
      go_ret
      obtain rfl : k = 256 := by omega
      rw [List.take_of_length_le (by rw [HYL.out]; exact Nat.le_refl _)] at hown
      exact ⟨_, rfl, hown, hbk⟩

theorem rput_calls (v1 v2 : Value) (b t : List Nat) (w : World) (hb : Bytes b) (ht : Bytes t) (hr1 : RdB w.heap.size w v1 b) (hr2 : RdB w.heap.size w v2 t) (hn : b.length ≤ 140737488351232) (htl : t.length = 256) :
    Calls Try.prog 115 #[v1, v2] w (RetS (b.map fun x => t.getD x 0) w) := by
  obtain ⟨ys, hys⟩ : ∃ ys, ys = b.map fun x => t.getD x 0 := ⟨_, rfl⟩
  have hyl : ys.length = b.length := by rw [hys]; simp
  have HY := Lib.hid hys
  have HYL := Lib.hid hyl
  have HT := Lib.hid htl
  rw [← hys]
  clear hys hyl htl
  have hr10 := hr1
  have hr20 := hr2
  go_enter Try.func115, Try.ntmps115
  go_wp2_with (first | (apply wpList_buildB []; exact of_decide_eq_true rfl; rfl; rfl; rfl; intro g0 w0 hg01 hg02 hown0 hb0))
  clear hr1 hr2
  go_loopw [5, 6] (fun s i wr => ∃ k : Nat, k ≤ b.length ∧ i = .int .i64 k ∧ wr.ownsRow w.heap.size 5 1 s (ys.take k).length (bv (ys.take k)) ∧ Below w.heap.size w wr) (fun _ i _ => b.length - (intOf i).toNat)
  case atStart => exact ⟨0, by omega, rfl, hown0, hb0⟩
  case round =>
    obtain ⟨k, hk, rfl, hown, hbk⟩ := hrel
    clear hown0
    have hrk1 := hr10.mono hbk
    have hrk2 := hr20.mono hbk
    by_cases hlt : k < b.length
    · obtain ⟨x, hx⟩ : ∃ x, x = b.getD k 0 := ⟨_, rfl⟩
      obtain ⟨y, hy⟩ : ∃ y, y = t.getD x 0 := ⟨_, rfl⟩
      have hx8 : x < 256 := hx ▸ hb.get k
      have hxt : x < t.length := by rw [HT.out]; exact hx8
      have e1 : ((b.getD k 0 : Nat) : Int) = x := by rw [hx]
      have e2 : ((t.getD x 0 : Nat) : Int) = y := by rw [hy]
      have hs : ys.take (k + 1) = ys.take k ++ [y] := by
        rw [take_succ_getD _ _ (by have := HYL.out; omega), HY.out, hy, hx]
        simp [List.getElem?_eq_getElem hlt]
      have hbs := hbk.size
      have htl : (ys.take k).length = k := by rw [List.length_take, HYL.out]; omega
      have HS := Lib.hid hs
      have HTL := Lib.hid htl
      have HE1 := Lib.hid e1
      have HE2 := Lib.hid e2
      clear hs hx hy htl e1 e2
      go_wp2_with (first
        | (refine wpList_lenB hrk1 rfl rfl rfl ?_)
        | (apply wpList_indexB hrk1 k hlt; rfl; rfl; rfl; rfl; rfl; rw [HE1.out]; intro p hp hcell)
        | (apply wpList_indexB hrk2 x hxt; rfl; rfl; rfl; rfl; rfl; rw [HE2.out]; intro p2 hp2 hcell2)
        | (apply wpList_buildB [y]; exact of_decide_eq_true rfl; rfl; rfl; rfl; intro gb wb hgb1 hgb2 hob hbb)
        | (at_builtin; apply wpList_appendB (own_next hown hbb) (RdB.of_own hob); rfl; rfl; rfl; rfl; rw [HTL.out]; simp; omega; omega; intro v' w' hown' hgr'))
      have hb' := below_own hgr' (own_next hown hbb) (Nat.le_refl _) (by have := hbb.size; omega)
      go_roundw
      case rel => exact ⟨k + 1, by omega, by go_num, by rw [HS.out]; exact hown', hbk.trans ((hbb.mono hbs).trans hb')⟩
      case measure => simp [intOf]; omega
    · go_wp2_with (first | (refine wpList_lenB hrk1 rfl rfl rfl ?_))
      go_ret
      obtain rfl : k = b.length := by omega
      rw [List.take_of_length_le (by rw [HYL.out]; exact Nat.le_refl _)] at hown
      exact ⟨_, rfl, hown, hbk⟩

theorem rkL_take (L : List (List Nat)) (r k : Nat) (h : 4 * r + k < L.length) : ((L.drop (4 * r)).take (k + 1)).flatten = ((L.drop (4 * r)).take k).flatten ++ L.getD (4 * r + k) [] := by
  have hl : k < (L.drop (4 * r)).length := by rw [List.length_drop]; omega
  rw [List.take_succ_eq_append_getElem hl, List.flatten_append]
  simp [List.getElem?_eq_getElem h]

theorem rround_calls (v : Value) (L : List (List Nat)) (r : Nat) {R : Int} (hR : R = r) (w : World) (hL : ∀ x ∈ L, x.length = 4) (hr : RdL w.heap.size w v L) (hrl : 4 * r + 4 ≤ L.length) (h60 : L.length ≤ 60) :
    Calls Try.prog 114 #[v, .int .i64 R] w (RetS (rkL L r) w) := by
  subst hR
  have hfl : ∀ k, k ≤ 4 → (((L.drop (4 * r)).take k).flatten).length = 4 * k := fun k hk => by
    rw [flatten_length _ (fun x hx => hL x (List.mem_of_mem_drop (List.mem_of_mem_take hx))), List.length_take, List.length_drop]
    omega
  have HFL := Lib.hid hfl
  clear hfl
  have hr0 := hr
  go_enter Try.func114, Try.ntmps114
  go_wp2_with (first | (apply wpList_buildB []; exact of_decide_eq_true rfl; rfl; rfl; rfl; intro g0 w0 hg01 hg02 hown0 hb0))
  clear hr
  go_loopw [5, 6] (fun s i wr => ∃ k : Nat, k ≤ 4 ∧ i = .int .i64 ((4 * r + k : Nat) : Int) ∧ wr.ownsRow w.heap.size 5 1 s ((L.drop (4 * r)).take k).flatten.length (bv ((L.drop (4 * r)).take k).flatten) ∧ Below w.heap.size w wr) (fun _ i _ => (4 * r + 4) - (intOf i).toNat)
  case atStart => exact ⟨0, by omega, by go_num, hown0, hb0⟩
  case round =>
    obtain ⟨k, hk, rfl, hown, hbk⟩ := hrel
    clear hown0
    have hrk := hr0.mono hbk
    have hfk := HFL.out k hk
    obtain ⟨q, hq⟩ : ∃ q, q = 4 * r + k := ⟨_, rfl⟩
    by_cases hlt : k < 4
    · have hs := rkL_take L r k (by omega)
      have hx4 : (L.getD (4 * r + k) []).length = 4 := by
        rw [List.getD_eq_getElem?_getD, List.getElem?_eq_getElem (show 4 * r + k < L.length by omega)]
        exact hL _ (List.getElem_mem _)
      rw [← hq] at hs hx4 ⊢
      have hql : q < L.length := by omega
      have hq4 : (q : Int) < 4 * (r : Int) + 4 := by omega
      have hbs := hbk.size
      have HS := Lib.hid hs
      have HQ := Lib.hid hq
      have HX4 := Lib.hid hx4
      have HFK := Lib.hid hfk
      clear hs hq hx4 hfk
      go_wp2_with (first
        | (apply wpList_indexL hrk q hql; rfl; rfl; rfl; rfl; rfl; intro p y hp hcell hry)
        | (at_builtin; apply wpList_appendB hown hry; rfl; rfl; rfl; rfl; rw [HFK.out, HX4.out]; omega; omega; intro v' w' hown' hgr'))
      have hb' := below_own hgr' hown (Nat.le_refl _) hbs
      go_roundw
      case rel => exact ⟨k + 1, by omega, by have := HQ.out; go_num, by rw [HS.out]; exact hown', hbk.trans hb'⟩
      case measure => simp [intOf]; omega
    · obtain rfl : k = 4 := by omega
      have hq4 : (4 * (r : Int) + 4 ≤ (q : Int)) := by omega
      rw [← hq]
      have HQ := Lib.hid hq
      clear hq hfk
      go_wp2_with fail
      go_ret
      exact ⟨_, rfl, hown, hbk⟩
end Go.Proofs.Ytfinekmegiengaa
