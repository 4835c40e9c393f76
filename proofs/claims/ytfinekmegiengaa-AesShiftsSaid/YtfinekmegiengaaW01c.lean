/- The walk of layer 1's reference: are both the same? -/
import Derived.Test.YtfinekmegiengaaW01b
namespace Go.Proofs.Ytfinekmegiengaa
open Go.RowKit Nep
set_option maxRecDepth 100000
set_option linter.unusedVariables false

theorem below_drewN {B : Nat} {w w' : World} (h : Below B w w') (n : Nat) : Below B w (w'.drewN n) := ⟨h.os, h.tape, h.output, h.size, h.block⟩
theorem eq_of_getD {a b : List Nat} (hab : a.length = b.length) (h : ∀ i, i < a.length → a.getD i 0 = b.getD i 0) : a = b := by
  apply List.ext_getElem hab
  intro i h1 h2
  have := h i h1
  simpa [List.getElem?_eq_getElem h1, List.getElem?_eq_getElem h2] using this

theorem same_calls (v1 v2 : Value) (a b : List Nat) (w : World) (hr1 : RdB w.heap.size w v1 a) (hr2 : RdB w.heap.size w v2 b) (hn : a.length ≤ 140737488351232) :
    Calls Try.prog 43 #[v1, v2] w (RetB (.bool (decide (a = b))) w) := by
  by_cases hab : a.length = b.length
  · have hng : ((a.length : Int) != (b.length : Int)) = false := by rw [hab]; simp
    have HAB := Lib.hid hab
    clear hab
    have hr10 := hr1
    have hr20 := hr2
    go_enter Try.func43, Try.ntmps43
    go_wp2_with (first | (refine wpList_lenB hr1 rfl rfl rfl ?_) | (refine wpList_lenB hr2 rfl rfl rfl ?_))
    clear hr1 hr2
    go_loopw [5] (fun i wr => ∃ k : Nat, k ≤ a.length ∧ i = .int .i64 k ∧ Hid (∀ i, i < k → a.getD i 0 = b.getD i 0) ∧ Below w.heap.size w wr) (fun i _ => a.length - (intOf i).toNat)
    case atStart => exact ⟨0, by omega, rfl, fun i hi => absurd hi (by omega), Below.refl _ _⟩
    case round =>
      obtain ⟨k, hk, rfl, hal, hbk⟩ := hrel
      have hrk1 := hr10.mono hbk
      have hrk2 := hr20.mono hbk
      by_cases hlt : k < a.length
      · obtain ⟨ad1, c1, rfl, _, _, hc1⟩ := hrk1.at hlt
        obtain ⟨ad2, c2, rfl, _, _, hc2⟩ := hrk2.at (k := k) (by have := HAB.out; omega)
        obtain ⟨x, hx⟩ : ∃ x, x = a.getD k 0 := ⟨_, rfl⟩
        obtain ⟨y, hy⟩ : ∃ y, y = b.getD k 0 := ⟨_, rfl⟩
        rw [← hx] at hc1
        rw [← hy] at hc2
        have hl2 : (k : Int) < (b.length : Int) := by have := HAB.out; omega
        have hl1 : (k : Int) < (a.length : Int) := by omega
        have hk0 : (0 : Int) ≤ (k : Int) := by omega
        have HX := Lib.hid hx
        have HY := Lib.hid hy
        clear hx hy
        by_cases hxy : x = y
        · have hnx : ((x : Int) != (y : Int)) = false := by rw [hxy]; simp
          have HXY := Lib.hid hxy
          clear hxy
          go_wp2_with (first | (refine wpList_lenB hrk1 rfl rfl rfl ?_))
          clear hrk1 hrk2
          go_quiet (fail)
          go_wp2
          go_roundw
          case rel => exact ⟨k + 1, by omega, by go_num, fun i hi => by
            by_cases h : i < k
            · exact hal.out i h
            · obtain rfl : i = k := by omega
              rw [← HX.out, ← HY.out]; exact HXY.out, below_drewN hbk _⟩
          case measure => simp [intOf]; omega
        · have hnx : ((x : Int) != (y : Int)) = true := by simp; omega
          go_wp2_with (first | (refine wpList_lenB hrk1 rfl rfl rfl ?_))
          clear hrk1 hrk2
          go_quiet (fail)
          go_wp2
          go_ret
          refine RetB.mk (val_bool ?_) (below_drewN hbk _)
          refine (decide_eq_false ?_).symm
          intro h
          apply hxy
          rw [HX.out, HY.out, h]
      · go_wp2_with (first | (refine wpList_lenB hrk1 rfl rfl rfl ?_))
        go_ret
        refine RetB.mk (val_bool ?_) hbk
        refine (decide_eq_true ?_).symm
        exact eq_of_getD HAB.out fun i hi => hal.out i (by omega)
  · have hng : ((a.length : Int) != (b.length : Int)) = true := by simp; omega
    go_enter Try.func43, Try.ntmps43
    go_wp2_with (first | (refine wpList_lenB hr1 rfl rfl rfl ?_) | (refine wpList_lenB hr2 rfl rfl rfl ?_))
    go_ret
    refine RetB.mk (val_bool ?_) (Below.refl _ _)
    refine (decide_eq_false ?_).symm
    intro h
    exact hab (by rw [h])
end Go.Proofs.Ytfinekmegiengaa
