/- The walks of layer 17: may a slot be? -/
import Derived.Test.YtfinekmegiengaaMemS
import Derived.Test.YtfinekmegiengaaPlnS
namespace Go.Proofs.Ytfinekmegiengaa
open Go.RowKit Nep
set_option maxRecDepth 100000
set_option linter.unusedVariables false
set_option linter.unusedSimpArgs false
set_option maxHeartbeats 1000000

theorem sright_calls (u : Bool) (s : Int) (e c : Nat) (v : Value) (l : List Nat) (w : World) (hr : RdB w.heap.size w v l) : Calls Try.prog 64 #[slotV u s e c v] w (RetB (.bool (slotOk u s e c l.length)) w) := by
  obtain ⟨v1, hv1⟩ : ∃ v1, v1 = slotV u s e c v := ⟨_, rfl⟩
  rw [← hv1]
  have HV1 := Lib.hid hv1
  clear hv1
  cases u with
  | true =>
    by_cases h1 : 1 ≤ s
    · have f1 : decide ((1 : Int) ≤ s) = true := by simp; omega
      by_cases h2 : s ≤ 65535
      · have f2 : decide (s ≤ 65535) = true := by simp; omega
        by_cases h3 : l.length = 104
        · have f3 : ((l.length : Int) == 104) = true := by rw [beq_iff_eq]; omega
          have hv : slotOk true s e c l.length = true := by simp [slotOk, h1, h2, h3]
          rw [hv]
          clear hv h1 h2 h3
          go_enter Try.func64, Try.ntmps64
          go_wp2_with (first
            | (apply wpList_boxR v1; rfl; rfl; rfl; intro g1 w1 hg1 hg1' hr1 hb1; rw [HV1.out] at hr1; obtain ⟨a0, a1, a2, a3, a4⟩ := row5 hr1; have hl1 := hr.next hb1)
            | (refine wpList_lenB hl1 rfl rfl rfl ?_))
          go_ret
          exact RetB.mk rfl hb1
        · have f3 : ((l.length : Int) == 104) = false := by rw [beq_eq_false_iff_ne]; omega
          have hv : slotOk true s e c l.length = false := by simp [slotOk, h3]
          rw [hv]
          clear hv h1 h2 h3
          go_enter Try.func64, Try.ntmps64
          go_wp2_with (first
            | (apply wpList_boxR v1; rfl; rfl; rfl; intro g1 w1 hg1 hg1' hr1 hb1; rw [HV1.out] at hr1; obtain ⟨a0, a1, a2, a3, a4⟩ := row5 hr1; have hl1 := hr.next hb1)
            | (refine wpList_lenB hl1 rfl rfl rfl ?_))
          go_ret
          exact RetB.mk rfl hb1
      · have f2 : decide (s ≤ 65535) = false := by simp; omega
        have hv : slotOk true s e c l.length = false := by simp [slotOk, h2]
        rw [hv]
        clear hv h1 h2
        go_enter Try.func64, Try.ntmps64
        go_wp2_with (first
          | (apply wpList_boxR v1; rfl; rfl; rfl; intro g1 w1 hg1 hg1' hr1 hb1; rw [HV1.out] at hr1; obtain ⟨a0, a1, a2, a3, a4⟩ := row5 hr1; have hl1 := hr.next hb1))
        go_ret
        exact RetB.mk rfl hb1
    · have f1 : decide ((1 : Int) ≤ s) = false := by simp; omega
      have hv : slotOk true s e c l.length = false := by simp [slotOk, h1]
      rw [hv]
      clear hv h1
      go_enter Try.func64, Try.ntmps64
      go_wp2_with (first
        | (apply wpList_boxR v1; rfl; rfl; rfl; intro g1 w1 hg1 hg1' hr1 hb1; rw [HV1.out] at hr1; obtain ⟨a0, a1, a2, a3, a4⟩ := row5 hr1; have hl1 := hr.next hb1))
      go_ret
      exact RetB.mk rfl hb1
  | false =>
    by_cases h1 : s = 0
    · have f1 : (s == 0) = true := by rw [beq_iff_eq]; omega
      by_cases h2 : e = 0
      · have f2 : ((e : Int) == 0) = true := by rw [beq_iff_eq]; omega
        by_cases h3 : c = 0
        · have f3 : ((c : Int) == 0) = true := by rw [beq_iff_eq]; omega
          by_cases h4 : l.length = 0
          · have f4 : ((l.length : Int) == 0) = true := by rw [beq_iff_eq]; omega
            have hv : slotOk false s e c l.length = true := by simp [slotOk, h1, h2, h3, h4]
            rw [hv]
            clear hv h1 h2 h3 h4
            go_enter Try.func64, Try.ntmps64
            go_wp2_with (first
              | (apply wpList_boxR v1; rfl; rfl; rfl; intro g1 w1 hg1 hg1' hr1 hb1; rw [HV1.out] at hr1; obtain ⟨a0, a1, a2, a3, a4⟩ := row5 hr1; have hl1 := hr.next hb1)
              | (refine wpList_lenB hl1 rfl rfl rfl ?_))
            go_ret
            exact RetB.mk rfl hb1
          · have f4 : ((l.length : Int) == 0) = false := by rw [beq_eq_false_iff_ne]; omega
            have hv : slotOk false s e c l.length = false := by simp [slotOk, h4]
            rw [hv]
            clear hv h1 h2 h3 h4
            go_enter Try.func64, Try.ntmps64
            go_wp2_with (first
              | (apply wpList_boxR v1; rfl; rfl; rfl; intro g1 w1 hg1 hg1' hr1 hb1; rw [HV1.out] at hr1; obtain ⟨a0, a1, a2, a3, a4⟩ := row5 hr1; have hl1 := hr.next hb1)
              | (refine wpList_lenB hl1 rfl rfl rfl ?_))
            go_ret
            exact RetB.mk rfl hb1
        · have f3 : ((c : Int) == 0) = false := by rw [beq_eq_false_iff_ne]; omega
          have hv : slotOk false s e c l.length = false := by simp [slotOk, h3]
          rw [hv]
          clear hv h1 h2 h3
          go_enter Try.func64, Try.ntmps64
          go_wp2_with (first
            | (apply wpList_boxR v1; rfl; rfl; rfl; intro g1 w1 hg1 hg1' hr1 hb1; rw [HV1.out] at hr1; obtain ⟨a0, a1, a2, a3, a4⟩ := row5 hr1; have hl1 := hr.next hb1))
          go_ret
          exact RetB.mk rfl hb1
      · have f2 : ((e : Int) == 0) = false := by rw [beq_eq_false_iff_ne]; omega
        have hv : slotOk false s e c l.length = false := by simp [slotOk, h2]
        rw [hv]
        clear hv h1 h2
        go_enter Try.func64, Try.ntmps64
        go_wp2_with (first
          | (apply wpList_boxR v1; rfl; rfl; rfl; intro g1 w1 hg1 hg1' hr1 hb1; rw [HV1.out] at hr1; obtain ⟨a0, a1, a2, a3, a4⟩ := row5 hr1; have hl1 := hr.next hb1))
        go_ret
        exact RetB.mk rfl hb1
    · have f1 : (s == 0) = false := by rw [beq_eq_false_iff_ne]; omega
      have hv : slotOk false s e c l.length = false := by simp [slotOk, h1]
      rw [hv]
      clear hv h1
      go_enter Try.func64, Try.ntmps64
      go_wp2_with (first
        | (apply wpList_boxR v1; rfl; rfl; rfl; intro g1 w1 hg1 hg1' hr1 hb1; rw [HV1.out] at hr1; obtain ⟨a0, a1, a2, a3, a4⟩ := row5 hr1; have hl1 := hr.next hb1))
      go_ret
      exact RetB.mk rfl hb1
theorem rsright_calls (u : Bool) (s : Int) (e c : Nat) (v : Value) (l : List Nat) (w : World) (hr : RdB w.heap.size w v l) : Calls Try.prog 65 #[slotV u s e c v] w (RetB (.bool (slotOk u s e c l.length)) w) := by
  obtain ⟨v1, hv1⟩ : ∃ v1, v1 = slotV u s e c v := ⟨_, rfl⟩
  rw [← hv1]
  have HV1 := Lib.hid hv1
  clear hv1
  cases u with
  | true =>
    by_cases h1 : 1 ≤ s
    · have f1 : decide ((1 : Int) ≤ s) = true := by simp; omega
      by_cases h2 : s ≤ 65535
      · have f2 : decide (s ≤ 65535) = true := by simp; omega
        by_cases h3 : l.length = 104
        · have f3 : ((l.length : Int) == 104) = true := by rw [beq_iff_eq]; omega
          have hv : slotOk true s e c l.length = true := by simp [slotOk, h1, h2, h3]
          rw [hv]
          clear hv h1 h2 h3
          go_enter Try.func65, Try.ntmps65
          go_wp2_with (first
            | (apply wpList_boxR v1; rfl; rfl; rfl; intro g1 w1 hg1 hg1' hr1 hb1; rw [HV1.out] at hr1; obtain ⟨a0, a1, a2, a3, a4⟩ := row5 hr1; have hl1 := hr.next hb1)
            | (refine wpList_lenB hl1 rfl rfl rfl ?_))
          go_ret
          exact RetB.mk rfl hb1
        · have f3 : ((l.length : Int) == 104) = false := by rw [beq_eq_false_iff_ne]; omega
          have hv : slotOk true s e c l.length = false := by simp [slotOk, h3]
          rw [hv]
          clear hv h1 h2 h3
          go_enter Try.func65, Try.ntmps65
          go_wp2_with (first
            | (apply wpList_boxR v1; rfl; rfl; rfl; intro g1 w1 hg1 hg1' hr1 hb1; rw [HV1.out] at hr1; obtain ⟨a0, a1, a2, a3, a4⟩ := row5 hr1; have hl1 := hr.next hb1)
            | (refine wpList_lenB hl1 rfl rfl rfl ?_))
          go_ret
          exact RetB.mk rfl hb1
      · have f2 : decide (s ≤ 65535) = false := by simp; omega
        have hv : slotOk true s e c l.length = false := by simp [slotOk, h2]
        rw [hv]
        clear hv h1 h2
        go_enter Try.func65, Try.ntmps65
        go_wp2_with (first
          | (apply wpList_boxR v1; rfl; rfl; rfl; intro g1 w1 hg1 hg1' hr1 hb1; rw [HV1.out] at hr1; obtain ⟨a0, a1, a2, a3, a4⟩ := row5 hr1; have hl1 := hr.next hb1))
        go_ret
        exact RetB.mk rfl hb1
    · have f1 : decide ((1 : Int) ≤ s) = false := by simp; omega
      have hv : slotOk true s e c l.length = false := by simp [slotOk, h1]
      rw [hv]
      clear hv h1
      go_enter Try.func65, Try.ntmps65
      go_wp2_with (first
        | (apply wpList_boxR v1; rfl; rfl; rfl; intro g1 w1 hg1 hg1' hr1 hb1; rw [HV1.out] at hr1; obtain ⟨a0, a1, a2, a3, a4⟩ := row5 hr1; have hl1 := hr.next hb1))
      go_ret
      exact RetB.mk rfl hb1
  | false =>
    by_cases h1 : s = 0
    · have f1 : (s == 0) = true := by rw [beq_iff_eq]; omega
      by_cases h2 : e = 0
      · have f2 : ((e : Int) == 0) = true := by rw [beq_iff_eq]; omega
        by_cases h3 : c = 0
        · have f3 : ((c : Int) == 0) = true := by rw [beq_iff_eq]; omega
          by_cases h4 : l.length = 0
          · have f4 : ((l.length : Int) == 0) = true := by rw [beq_iff_eq]; omega
            have hv : slotOk false s e c l.length = true := by simp [slotOk, h1, h2, h3, h4]
            rw [hv]
            clear hv h1 h2 h3 h4
            go_enter Try.func65, Try.ntmps65
            go_wp2_with (first
              | (apply wpList_boxR v1; rfl; rfl; rfl; intro g1 w1 hg1 hg1' hr1 hb1; rw [HV1.out] at hr1; obtain ⟨a0, a1, a2, a3, a4⟩ := row5 hr1; have hl1 := hr.next hb1)
              | (refine wpList_lenB hl1 rfl rfl rfl ?_))
            go_ret
            exact RetB.mk rfl hb1
          · have f4 : ((l.length : Int) == 0) = false := by rw [beq_eq_false_iff_ne]; omega
            have hv : slotOk false s e c l.length = false := by simp [slotOk, h4]
            rw [hv]
            clear hv h1 h2 h3 h4
            go_enter Try.func65, Try.ntmps65
            go_wp2_with (first
              | (apply wpList_boxR v1; rfl; rfl; rfl; intro g1 w1 hg1 hg1' hr1 hb1; rw [HV1.out] at hr1; obtain ⟨a0, a1, a2, a3, a4⟩ := row5 hr1; have hl1 := hr.next hb1)
              | (refine wpList_lenB hl1 rfl rfl rfl ?_))
            go_ret
            exact RetB.mk rfl hb1
        · have f3 : ((c : Int) == 0) = false := by rw [beq_eq_false_iff_ne]; omega
          have hv : slotOk false s e c l.length = false := by simp [slotOk, h3]
          rw [hv]
          clear hv h1 h2 h3
          go_enter Try.func65, Try.ntmps65
          go_wp2_with (first
            | (apply wpList_boxR v1; rfl; rfl; rfl; intro g1 w1 hg1 hg1' hr1 hb1; rw [HV1.out] at hr1; obtain ⟨a0, a1, a2, a3, a4⟩ := row5 hr1; have hl1 := hr.next hb1))
          go_ret
          exact RetB.mk rfl hb1
      · have f2 : ((e : Int) == 0) = false := by rw [beq_eq_false_iff_ne]; omega
        have hv : slotOk false s e c l.length = false := by simp [slotOk, h2]
        rw [hv]
        clear hv h1 h2
        go_enter Try.func65, Try.ntmps65
        go_wp2_with (first
          | (apply wpList_boxR v1; rfl; rfl; rfl; intro g1 w1 hg1 hg1' hr1 hb1; rw [HV1.out] at hr1; obtain ⟨a0, a1, a2, a3, a4⟩ := row5 hr1; have hl1 := hr.next hb1))
        go_ret
        exact RetB.mk rfl hb1
    · have f1 : (s == 0) = false := by rw [beq_eq_false_iff_ne]; omega
      have hv : slotOk false s e c l.length = false := by simp [slotOk, h1]
      rw [hv]
      clear hv h1
      go_enter Try.func65, Try.ntmps65
      go_wp2_with (first
        | (apply wpList_boxR v1; rfl; rfl; rfl; intro g1 w1 hg1 hg1' hr1 hb1; rw [HV1.out] at hr1; obtain ⟨a0, a1, a2, a3, a4⟩ := row5 hr1; have hl1 := hr.next hb1))
      go_ret
      exact RetB.mk rfl hb1
end Go.Proofs.Ytfinekmegiengaa
