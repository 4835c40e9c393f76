/- The walk of the law SlotDeads. -/
import Derived.Test.YtfinekmegiengaaL17
import Derived.Test.YtfinekmegiengaaW17a
import Derived.Test.YtfinekmegiengaaW17b
namespace Go.Proofs.Ytfinekmegiengaa
open Go.RowKit Nep
set_option maxRecDepth 100000
set_option linter.unusedVariables false
set_option linter.unusedSimpArgs false
set_option maxHeartbeats 4000000

theorem row5_up {w w' : World} {g : Nat} {t : TypeId} {v0 v1 v2 v3 v4 : Value} (h : Row w g t #[v0, v1, v2, v3, v4]) (hb : Below w.heap.size w w') :
    w'.cell? ⟨g, 0, none⟩ = some v0 ∧ w'.cell? ⟨g, 1, none⟩ = some v1 ∧ w'.cell? ⟨g, 2, none⟩ = some v2 ∧ w'.cell? ⟨g, 3, none⟩ = some v3 ∧ w'.cell? ⟨g, 4, none⟩ = some v4 := row5 (h.next hb)
theorem row5_at {w : World} {g : Nat} {t : TypeId} {v0 v1 v2 v3 v4 : Value} (h : Row w g t #[v0, v1, v2, v3, v4]) :
    (∀ w', Below w.heap.size w.drew w' → w'.cell? ⟨g, 0, none⟩ = some v0) ∧ (∀ w', Below w.heap.size w.drew w' → w'.cell? ⟨g, 1, none⟩ = some v1) ∧ (∀ w', Below w.heap.size w.drew w' → w'.cell? ⟨g, 2, none⟩ = some v2) ∧ (∀ w', Below w.heap.size w.drew w' → w'.cell? ⟨g, 3, none⟩ = some v3) ∧ (∀ w', Below w.heap.size w.drew w' → w'.cell? ⟨g, 4, none⟩ = some v4) :=
  ⟨fun w' hb => (row5_up h ((Below.refl _ _).drew.trans hb)).1, fun w' hb => (row5_up h ((Below.refl _ _).drew.trans hb)).2.1, fun w' hb => (row5_up h ((Below.refl _ _).drew.trans hb)).2.2.1, fun w' hb => (row5_up h ((Below.refl _ _).drew.trans hb)).2.2.2.1, fun w' hb => (row5_up h ((Below.refl _ _).drew.trans hb)).2.2.2.2⟩
theorem row6_at {w : World} {g : Nat} {t : TypeId} {v0 v1 v2 v3 v4 v5 : Value} (h : Row w g t #[v0, v1, v2, v3, v4, v5]) :
    (∀ w', Below w.heap.size w.drew w' → w'.cell? ⟨g, 0, none⟩ = some v0) ∧ (∀ w', Below w.heap.size w.drew w' → w'.cell? ⟨g, 1, none⟩ = some v1) ∧ (∀ w', Below w.heap.size w.drew w' → w'.cell? ⟨g, 2, none⟩ = some v2) ∧ (∀ w', Below w.heap.size w.drew w' → w'.cell? ⟨g, 3, none⟩ = some v3) ∧ (∀ w', Below w.heap.size w.drew w' → w'.cell? ⟨g, 4, none⟩ = some v4) ∧ (∀ w', Below w.heap.size w.drew w' → w'.cell? ⟨g, 5, none⟩ = some v5) :=
  ⟨fun w' hb => (h.next ((Below.refl _ _).drew.trans hb)).cell rfl, fun w' hb => (h.next ((Below.refl _ _).drew.trans hb)).cell rfl, fun w' hb => (h.next ((Below.refl _ _).drew.trans hb)).cell rfl, fun w' hb => (h.next ((Below.refl _ _).drew.trans hb)).cell rfl, fun w' hb => (h.next ((Below.refl _ _).drew.trans hb)).cell rfl, fun w' hb => (h.next ((Below.refl _ _).drew.trans hb)).cell rfl⟩
theorem dead_eq (u : Bool) (e c he hc : Nat) : deadB u e c he hc = (!u || (decide (he < e) || (decide (he = e) && decide (hc ≤ c)))) := by
  unfold deadB ltP
  cases u
  · rfl
  · by_cases h : e = he
    · subst h
      by_cases h2 : c < hc
      · simp [h2, show ¬ hc ≤ c by omega]
      · simp [h2, show hc ≤ c by omega]
    · rw [if_neg h]
      by_cases h2 : e < he
      · simp [h2, show ¬ he < e by omega, show ¬ he = e by omega]
      · simp [h2, show he < e by omega]
theorem dead_ahead {u : Bool} {e c ae ac be bc : Nat} (h : be < ae ∨ be = ae ∧ bc ≤ ac) (hd : deadB u e c ae ac = true) : deadB u e c be bc = true := by
  rw [dead_eq] at *
  cases u
  · rfl
  · simp only [Bool.not_true, Bool.false_or, Bool.or_eq_true, Bool.and_eq_true, decide_eq_true_eq] at *
    omega

theorem deads_a_false (u : Bool) (s : Int) (e c : Nat) (av : Option Addr) (m kk : Nat) (k1 n1 t1 b1 : Int) (ae ac : Nat) (k2 n2 t2 b2 : Int) (be bc : Nat) (w : World) (f1 : decide (be < ae) = true) (hd : deadB u e c ae ac = false) :
    Calls Try.prog 12 #[slotV u s e c (.slice av m kk), headV k1 n1 t1 b1 ae ac, headV k2 n2 t2 b2 be bc] w (RetB (.bool true) w) := by
  obtain ⟨v1, hv1⟩ : ∃ v1, v1 = slotV u s e c (.slice av m kk) := ⟨_, rfl⟩
  obtain ⟨v2, hv2⟩ : ∃ v2, v2 = headV k1 n1 t1 b1 ae ac := ⟨_, rfl⟩
  obtain ⟨v3, hv3⟩ : ∃ v3, v3 = headV k2 n2 t2 b2 be bc := ⟨_, rfl⟩
  rw [← hv1, ← hv2, ← hv3]
  have HV1 := Lib.hid hv1
  have HV2 := Lib.hid hv2
  have HV3 := Lib.hid hv3
  clear hv1 hv2 hv3
  have CD : RowKit.Hid (∀ w, Calls Try.prog 50 #[.agg #[.bool u, .int .i64 s, .int .u64 (e : Int), .int .u64 (c : Int), .slice av m kk], .agg #[.int .i64 k1, .int .i64 n1, .int .i64 t1, .int .u32 b1, .int .u64 (ae : Int), .int .u64 (ac : Int)]] w (RetB (.bool false) w)) := Lib.hid (fun w => by have h := dead_calls u s e c (.slice av m kk) k1 n1 t1 b1 ae ac w; rw [hd] at h; exact h)
  have CO : RowKit.Hid (∀ w, Calls Try.prog 52 #[.agg #[.bool u, .int .i64 s, .int .u64 (e : Int), .int .u64 (c : Int), .slice av m kk]] w (RetB (.agg #[.bool u, .int .i64 s, .int .u64 (e : Int), .int .u64 (c : Int), .slice av m kk]) w)) := Lib.hid (fun w => of_calls u s e c av m kk w)
  have CR : RowKit.Hid (∀ w, Calls Try.prog 51 #[.agg #[.bool u, .int .i64 s, .int .u64 (e : Int), .int .u64 (c : Int), .slice av m kk], .agg #[.int .i64 k1, .int .i64 n1, .int .i64 t1, .int .u32 b1, .int .u64 (ae : Int), .int .u64 (ac : Int)]] w (RetB (.bool false) w)) := Lib.hid (fun w => rdead_calls u s e c (.slice av m kk) k1 n1 t1 b1 ae ac _ (by rw [← dead_eq, hd]) w)
  clear hd
  go_enter Try.func12, Try.ntmps12
  go_wp2_with (first
    | (apply wpList_boxR v1; rfl; rfl; rfl; intro g1 w1 hg1 hg1' hr1 hb1; rw [HV1.out] at hr1)
    | (apply wpList_boxR v2; rfl; rfl; rfl; intro g2 w2 hg2 hg2' hr2 hb2; rw [HV2.out] at hr2; have hr12 := hr1.next hb2)
    | (apply wpList_boxR v3; rfl; rfl; rfl; intro g3 w3 hg3 hg3' hr3 hb3; rw [HV3.out] at hr3; have hr13 := hr12.next hb3; have hr23 := hr2.next hb3))
  have s1 := hb1.size
  have s2 := hb2.size
  have hb0 : Below w.heap.size w w3 := hb1.trans ((hb2.mono s1).trans (hb3.mono (Nat.le_trans s1 s2)))
  obtain ⟨K0, K1, K2, K3, K4⟩ := row5_at hr13
  obtain ⟨M0, M1, M2, M3, M4, M5⟩ := row6_at hr23
  clear hr1 hr12 hr2 hb1 hb2 hb3 s1 s2
  go_region_held3 (fun w' => Below w3.heap.size w3.drew w')
    (first | (with_reducible exact Below.refl _ _) | (with_reducible exact hS5) | (with_reducible exact hS6) | (with_reducible exact hS7))
    (first
      | (go_at_call 50; (with_reducible refine (CD.out _).mono ?_); rintro x w5 ⟨rfl, hb5⟩; have hS5 := below_call (w := w3) hb5 (by assumption))
      | (go_at_call 52; refine (CO.out _).mono ?_; rintro x w6 ⟨rfl, hb6⟩; have hS6 := below_call (w := w3) hb6 (by assumption))
      | (go_at_call 51; refine (CR.out _).mono ?_; rintro x w7 ⟨rfl, hb7⟩; have hS7 := below_call (w := w3) hb7 (by assumption)))
  all_goals
    have hH := Below.drewn ‹Below _ w3.drew _›
    have hq1 := hr13.next hH
    have hq2 := hr23.next hH
    have hq3 := hr3.next hH
    have hbH := hb0.trans (hH.mono hb0.size)
    obtain ⟨a0, a1, a2, a3, a4⟩ := row5 hq1
    obtain ⟨c0, c1, c2, c3, c4, c5⟩ := row6 hq2
    obtain ⟨d0, d1, d2, d3, d4, d5⟩ := row6 hq3
    clear K0 K1 K2 K3 K4 M0 M1 M2 M3 M4 M5 hH
    go_wp2_with (first
      | (go_at_call 50; (with_reducible refine (CD.out _).mono ?_); rintro x w8 ⟨rfl, hb8⟩; have hq18 := hq1.next hb8; have hq38 := hq3.next hb8; obtain ⟨a80, a81, a82, a83, a84⟩ := row5 hq18; obtain ⟨d80, d81, d82, d83, d84, d85⟩ := row6 hq38)
      | (go_at_call 53; refine (awake17 _).mono ?_; rintro x w10 ⟨rfl, hb10⟩))
    go_ret
    exact RetB.mk rfl (hbH.trans ((hb8.mono hbH.size).trans (hb10.mono (Nat.le_trans hbH.size hb8.size))))
theorem deads_a_true (u : Bool) (s : Int) (e c : Nat) (av : Option Addr) (m kk : Nat) (k1 n1 t1 b1 : Int) (ae ac : Nat) (k2 n2 t2 b2 : Int) (be bc : Nat) (w : World) (f1 : decide (be < ae) = true) (hd : deadB u e c ae ac = true) (hd2 : deadB u e c be bc = true) :
    Calls Try.prog 12 #[slotV u s e c (.slice av m kk), headV k1 n1 t1 b1 ae ac, headV k2 n2 t2 b2 be bc] w (RetB (.bool true) w) := by
  obtain ⟨v1, hv1⟩ : ∃ v1, v1 = slotV u s e c (.slice av m kk) := ⟨_, rfl⟩
  obtain ⟨v2, hv2⟩ : ∃ v2, v2 = headV k1 n1 t1 b1 ae ac := ⟨_, rfl⟩
  obtain ⟨v3, hv3⟩ : ∃ v3, v3 = headV k2 n2 t2 b2 be bc := ⟨_, rfl⟩
  rw [← hv1, ← hv2, ← hv3]
  have HV1 := Lib.hid hv1
  have HV2 := Lib.hid hv2
  have HV3 := Lib.hid hv3
  clear hv1 hv2 hv3
  have CD : RowKit.Hid (∀ w, Calls Try.prog 50 #[.agg #[.bool u, .int .i64 s, .int .u64 (e : Int), .int .u64 (c : Int), .slice av m kk], .agg #[.int .i64 k1, .int .i64 n1, .int .i64 t1, .int .u32 b1, .int .u64 (ae : Int), .int .u64 (ac : Int)]] w (RetB (.bool true) w)) := Lib.hid (fun w => by have h := dead_calls u s e c (.slice av m kk) k1 n1 t1 b1 ae ac w; rw [hd] at h; exact h)
  have CE : RowKit.Hid (∀ w, Calls Try.prog 50 #[.agg #[.bool u, .int .i64 s, .int .u64 (e : Int), .int .u64 (c : Int), .slice av m kk], .agg #[.int .i64 k2, .int .i64 n2, .int .i64 t2, .int .u32 b2, .int .u64 (be : Int), .int .u64 (bc : Int)]] w (RetB (.bool true) w)) := Lib.hid (fun w => by have h := dead_calls u s e c (.slice av m kk) k2 n2 t2 b2 be bc w; rw [hd2] at h; exact h)
  have CO : RowKit.Hid (∀ w, Calls Try.prog 52 #[.agg #[.bool u, .int .i64 s, .int .u64 (e : Int), .int .u64 (c : Int), .slice av m kk]] w (RetB (.agg #[.bool u, .int .i64 s, .int .u64 (e : Int), .int .u64 (c : Int), .slice av m kk]) w)) := Lib.hid (fun w => of_calls u s e c av m kk w)
  have CR : RowKit.Hid (∀ w, Calls Try.prog 51 #[.agg #[.bool u, .int .i64 s, .int .u64 (e : Int), .int .u64 (c : Int), .slice av m kk], .agg #[.int .i64 k1, .int .i64 n1, .int .i64 t1, .int .u32 b1, .int .u64 (ae : Int), .int .u64 (ac : Int)]] w (RetB (.bool true) w)) := Lib.hid (fun w => rdead_calls u s e c (.slice av m kk) k1 n1 t1 b1 ae ac _ (by rw [← dead_eq, hd]) w)
  clear hd hd2
  go_enter Try.func12, Try.ntmps12
  go_wp2_with (first
    | (apply wpList_boxR v1; rfl; rfl; rfl; intro g1 w1 hg1 hg1' hr1 hb1; rw [HV1.out] at hr1)
    | (apply wpList_boxR v2; rfl; rfl; rfl; intro g2 w2 hg2 hg2' hr2 hb2; rw [HV2.out] at hr2; have hr12 := hr1.next hb2)
    | (apply wpList_boxR v3; rfl; rfl; rfl; intro g3 w3 hg3 hg3' hr3 hb3; rw [HV3.out] at hr3; have hr13 := hr12.next hb3; have hr23 := hr2.next hb3))
  have s1 := hb1.size
  have s2 := hb2.size
  have hb0 : Below w.heap.size w w3 := hb1.trans ((hb2.mono s1).trans (hb3.mono (Nat.le_trans s1 s2)))
  obtain ⟨K0, K1, K2, K3, K4⟩ := row5_at hr13
  obtain ⟨M0, M1, M2, M3, M4, M5⟩ := row6_at hr23
  clear hr1 hr12 hr2 hb1 hb2 hb3 s1 s2
  go_region_held3 (fun w' => Below w3.heap.size w3.drew w')
    (first | (with_reducible exact Below.refl _ _) | (with_reducible exact hS5) | (with_reducible exact hS6) | (with_reducible exact hS7))
    (first
      | (go_at_call 50; (with_reducible refine (CD.out _).mono ?_); rintro x w5 ⟨rfl, hb5⟩; have hS5 := below_call (w := w3) hb5 (by assumption))
      | (go_at_call 52; refine (CO.out _).mono ?_; rintro x w6 ⟨rfl, hb6⟩; have hS6 := below_call (w := w3) hb6 (by assumption))
      | (go_at_call 51; refine (CR.out _).mono ?_; rintro x w7 ⟨rfl, hb7⟩; have hS7 := below_call (w := w3) hb7 (by assumption)))
  all_goals
    have hH := Below.drewn ‹Below _ w3.drew _›
    have hq1 := hr13.next hH
    have hq2 := hr23.next hH
    have hq3 := hr3.next hH
    have hbH := hb0.trans (hH.mono hb0.size)
    obtain ⟨a0, a1, a2, a3, a4⟩ := row5 hq1
    obtain ⟨c0, c1, c2, c3, c4, c5⟩ := row6 hq2
    obtain ⟨d0, d1, d2, d3, d4, d5⟩ := row6 hq3
    clear K0 K1 K2 K3 K4 M0 M1 M2 M3 M4 M5 hH
    go_wp2_with (first
      | (go_at_call 50; (with_reducible refine (CD.out _).mono ?_); rintro x w8 ⟨rfl, hb8⟩; have hq18 := hq1.next hb8; have hq38 := hq3.next hb8; obtain ⟨a80, a81, a82, a83, a84⟩ := row5 hq18; obtain ⟨d80, d81, d82, d83, d84, d85⟩ := row6 hq38)
      | (go_at_call 50; (with_reducible refine (CE.out _).mono ?_); rintro x w9 ⟨rfl, hb9⟩)
      | (go_at_call 53; refine (awake17 _).mono ?_; rintro x w10 ⟨rfl, hb10⟩))
    go_ret
    exact RetB.mk rfl (hbH.trans ((hb8.mono hbH.size).trans ((hb9.mono (Nat.le_trans hbH.size hb8.size)).trans (hb10.mono (Nat.le_trans hbH.size (Nat.le_trans hb8.size hb9.size))))))
theorem deads_b_false (u : Bool) (s : Int) (e c : Nat) (av : Option Addr) (m kk : Nat) (k1 n1 t1 b1 : Int) (ae ac : Nat) (k2 n2 t2 b2 : Int) (be bc : Nat) (w : World) (f1 : decide (be < ae) = false) (f2 : ((be : Int) == (ae : Int)) = true) (f3 : decide (bc ≤ ac) = true) (hd : deadB u e c ae ac = false) :
    Calls Try.prog 12 #[slotV u s e c (.slice av m kk), headV k1 n1 t1 b1 ae ac, headV k2 n2 t2 b2 be bc] w (RetB (.bool true) w) := by
  obtain ⟨v1, hv1⟩ : ∃ v1, v1 = slotV u s e c (.slice av m kk) := ⟨_, rfl⟩
  obtain ⟨v2, hv2⟩ : ∃ v2, v2 = headV k1 n1 t1 b1 ae ac := ⟨_, rfl⟩
  obtain ⟨v3, hv3⟩ : ∃ v3, v3 = headV k2 n2 t2 b2 be bc := ⟨_, rfl⟩
  rw [← hv1, ← hv2, ← hv3]
  have HV1 := Lib.hid hv1
  have HV2 := Lib.hid hv2
  have HV3 := Lib.hid hv3
  clear hv1 hv2 hv3
  have CD : RowKit.Hid (∀ w, Calls Try.prog 50 #[.agg #[.bool u, .int .i64 s, .int .u64 (e : Int), .int .u64 (c : Int), .slice av m kk], .agg #[.int .i64 k1, .int .i64 n1, .int .i64 t1, .int .u32 b1, .int .u64 (ae : Int), .int .u64 (ac : Int)]] w (RetB (.bool false) w)) := Lib.hid (fun w => by have h := dead_calls u s e c (.slice av m kk) k1 n1 t1 b1 ae ac w; rw [hd] at h; exact h)
  have CO : RowKit.Hid (∀ w, Calls Try.prog 52 #[.agg #[.bool u, .int .i64 s, .int .u64 (e : Int), .int .u64 (c : Int), .slice av m kk]] w (RetB (.agg #[.bool u, .int .i64 s, .int .u64 (e : Int), .int .u64 (c : Int), .slice av m kk]) w)) := Lib.hid (fun w => of_calls u s e c av m kk w)
  have CR : RowKit.Hid (∀ w, Calls Try.prog 51 #[.agg #[.bool u, .int .i64 s, .int .u64 (e : Int), .int .u64 (c : Int), .slice av m kk], .agg #[.int .i64 k1, .int .i64 n1, .int .i64 t1, .int .u32 b1, .int .u64 (ae : Int), .int .u64 (ac : Int)]] w (RetB (.bool false) w)) := Lib.hid (fun w => rdead_calls u s e c (.slice av m kk) k1 n1 t1 b1 ae ac _ (by rw [← dead_eq, hd]) w)
  clear hd
  go_enter Try.func12, Try.ntmps12
  go_wp2_with (first
    | (apply wpList_boxR v1; rfl; rfl; rfl; intro g1 w1 hg1 hg1' hr1 hb1; rw [HV1.out] at hr1)
    | (apply wpList_boxR v2; rfl; rfl; rfl; intro g2 w2 hg2 hg2' hr2 hb2; rw [HV2.out] at hr2; have hr12 := hr1.next hb2)
    | (apply wpList_boxR v3; rfl; rfl; rfl; intro g3 w3 hg3 hg3' hr3 hb3; rw [HV3.out] at hr3; have hr13 := hr12.next hb3; have hr23 := hr2.next hb3))
  have s1 := hb1.size
  have s2 := hb2.size
  have hb0 : Below w.heap.size w w3 := hb1.trans ((hb2.mono s1).trans (hb3.mono (Nat.le_trans s1 s2)))
  obtain ⟨K0, K1, K2, K3, K4⟩ := row5_at hr13
  obtain ⟨M0, M1, M2, M3, M4, M5⟩ := row6_at hr23
  clear hr1 hr12 hr2 hb1 hb2 hb3 s1 s2
  go_region_held3 (fun w' => Below w3.heap.size w3.drew w')
    (first | (with_reducible exact Below.refl _ _) | (with_reducible exact hS5) | (with_reducible exact hS6) | (with_reducible exact hS7))
    (first
      | (go_at_call 50; (with_reducible refine (CD.out _).mono ?_); rintro x w5 ⟨rfl, hb5⟩; have hS5 := below_call (w := w3) hb5 (by assumption))
      | (go_at_call 52; refine (CO.out _).mono ?_; rintro x w6 ⟨rfl, hb6⟩; have hS6 := below_call (w := w3) hb6 (by assumption))
      | (go_at_call 51; refine (CR.out _).mono ?_; rintro x w7 ⟨rfl, hb7⟩; have hS7 := below_call (w := w3) hb7 (by assumption)))
  all_goals
    have hH := Below.drewn ‹Below _ w3.drew _›
    have hq1 := hr13.next hH
    have hq2 := hr23.next hH
    have hq3 := hr3.next hH
    have hbH := hb0.trans (hH.mono hb0.size)
    obtain ⟨a0, a1, a2, a3, a4⟩ := row5 hq1
    obtain ⟨c0, c1, c2, c3, c4, c5⟩ := row6 hq2
    obtain ⟨d0, d1, d2, d3, d4, d5⟩ := row6 hq3
    clear K0 K1 K2 K3 K4 M0 M1 M2 M3 M4 M5 hH
    go_wp2_with (first
      | (go_at_call 50; (with_reducible refine (CD.out _).mono ?_); rintro x w8 ⟨rfl, hb8⟩; have hq18 := hq1.next hb8; have hq38 := hq3.next hb8; obtain ⟨a80, a81, a82, a83, a84⟩ := row5 hq18; obtain ⟨d80, d81, d82, d83, d84, d85⟩ := row6 hq38)
      | (go_at_call 53; refine (awake17 _).mono ?_; rintro x w10 ⟨rfl, hb10⟩))
    go_ret
    exact RetB.mk rfl (hbH.trans ((hb8.mono hbH.size).trans (hb10.mono (Nat.le_trans hbH.size hb8.size))))
theorem deads_b_true (u : Bool) (s : Int) (e c : Nat) (av : Option Addr) (m kk : Nat) (k1 n1 t1 b1 : Int) (ae ac : Nat) (k2 n2 t2 b2 : Int) (be bc : Nat) (w : World) (f1 : decide (be < ae) = false) (f2 : ((be : Int) == (ae : Int)) = true) (f3 : decide (bc ≤ ac) = true) (hd : deadB u e c ae ac = true) (hd2 : deadB u e c be bc = true) :
    Calls Try.prog 12 #[slotV u s e c (.slice av m kk), headV k1 n1 t1 b1 ae ac, headV k2 n2 t2 b2 be bc] w (RetB (.bool true) w) := by
  obtain ⟨v1, hv1⟩ : ∃ v1, v1 = slotV u s e c (.slice av m kk) := ⟨_, rfl⟩
  obtain ⟨v2, hv2⟩ : ∃ v2, v2 = headV k1 n1 t1 b1 ae ac := ⟨_, rfl⟩
  obtain ⟨v3, hv3⟩ : ∃ v3, v3 = headV k2 n2 t2 b2 be bc := ⟨_, rfl⟩
  rw [← hv1, ← hv2, ← hv3]
  have HV1 := Lib.hid hv1
  have HV2 := Lib.hid hv2
  have HV3 := Lib.hid hv3
  clear hv1 hv2 hv3
  have CD : RowKit.Hid (∀ w, Calls Try.prog 50 #[.agg #[.bool u, .int .i64 s, .int .u64 (e : Int), .int .u64 (c : Int), .slice av m kk], .agg #[.int .i64 k1, .int .i64 n1, .int .i64 t1, .int .u32 b1, .int .u64 (ae : Int), .int .u64 (ac : Int)]] w (RetB (.bool true) w)) := Lib.hid (fun w => by have h := dead_calls u s e c (.slice av m kk) k1 n1 t1 b1 ae ac w; rw [hd] at h; exact h)
  have CE : RowKit.Hid (∀ w, Calls Try.prog 50 #[.agg #[.bool u, .int .i64 s, .int .u64 (e : Int), .int .u64 (c : Int), .slice av m kk], .agg #[.int .i64 k2, .int .i64 n2, .int .i64 t2, .int .u32 b2, .int .u64 (be : Int), .int .u64 (bc : Int)]] w (RetB (.bool true) w)) := Lib.hid (fun w => by have h := dead_calls u s e c (.slice av m kk) k2 n2 t2 b2 be bc w; rw [hd2] at h; exact h)
  have CO : RowKit.Hid (∀ w, Calls Try.prog 52 #[.agg #[.bool u, .int .i64 s, .int .u64 (e : Int), .int .u64 (c : Int), .slice av m kk]] w (RetB (.agg #[.bool u, .int .i64 s, .int .u64 (e : Int), .int .u64 (c : Int), .slice av m kk]) w)) := Lib.hid (fun w => of_calls u s e c av m kk w)
  have CR : RowKit.Hid (∀ w, Calls Try.prog 51 #[.agg #[.bool u, .int .i64 s, .int .u64 (e : Int), .int .u64 (c : Int), .slice av m kk], .agg #[.int .i64 k1, .int .i64 n1, .int .i64 t1, .int .u32 b1, .int .u64 (ae : Int), .int .u64 (ac : Int)]] w (RetB (.bool true) w)) := Lib.hid (fun w => rdead_calls u s e c (.slice av m kk) k1 n1 t1 b1 ae ac _ (by rw [← dead_eq, hd]) w)
  clear hd hd2
  go_enter Try.func12, Try.ntmps12
  go_wp2_with (first
    | (apply wpList_boxR v1; rfl; rfl; rfl; intro g1 w1 hg1 hg1' hr1 hb1; rw [HV1.out] at hr1)
    | (apply wpList_boxR v2; rfl; rfl; rfl; intro g2 w2 hg2 hg2' hr2 hb2; rw [HV2.out] at hr2; have hr12 := hr1.next hb2)
    | (apply wpList_boxR v3; rfl; rfl; rfl; intro g3 w3 hg3 hg3' hr3 hb3; rw [HV3.out] at hr3; have hr13 := hr12.next hb3; have hr23 := hr2.next hb3))
  have s1 := hb1.size
  have s2 := hb2.size
  have hb0 : Below w.heap.size w w3 := hb1.trans ((hb2.mono s1).trans (hb3.mono (Nat.le_trans s1 s2)))
  obtain ⟨K0, K1, K2, K3, K4⟩ := row5_at hr13
  obtain ⟨M0, M1, M2, M3, M4, M5⟩ := row6_at hr23
  clear hr1 hr12 hr2 hb1 hb2 hb3 s1 s2
  go_region_held3 (fun w' => Below w3.heap.size w3.drew w')
    (first | (with_reducible exact Below.refl _ _) | (with_reducible exact hS5) | (with_reducible exact hS6) | (with_reducible exact hS7))
    (first
      | (go_at_call 50; (with_reducible refine (CD.out _).mono ?_); rintro x w5 ⟨rfl, hb5⟩; have hS5 := below_call (w := w3) hb5 (by assumption))
      | (go_at_call 52; refine (CO.out _).mono ?_; rintro x w6 ⟨rfl, hb6⟩; have hS6 := below_call (w := w3) hb6 (by assumption))
      | (go_at_call 51; refine (CR.out _).mono ?_; rintro x w7 ⟨rfl, hb7⟩; have hS7 := below_call (w := w3) hb7 (by assumption)))
  all_goals
    have hH := Below.drewn ‹Below _ w3.drew _›
    have hq1 := hr13.next hH
    have hq2 := hr23.next hH
    have hq3 := hr3.next hH
    have hbH := hb0.trans (hH.mono hb0.size)
    obtain ⟨a0, a1, a2, a3, a4⟩ := row5 hq1
    obtain ⟨c0, c1, c2, c3, c4, c5⟩ := row6 hq2
    obtain ⟨d0, d1, d2, d3, d4, d5⟩ := row6 hq3
    clear K0 K1 K2 K3 K4 M0 M1 M2 M3 M4 M5 hH
    go_wp2_with (first
      | (go_at_call 50; (with_reducible refine (CD.out _).mono ?_); rintro x w8 ⟨rfl, hb8⟩; have hq18 := hq1.next hb8; have hq38 := hq3.next hb8; obtain ⟨a80, a81, a82, a83, a84⟩ := row5 hq18; obtain ⟨d80, d81, d82, d83, d84, d85⟩ := row6 hq38)
      | (go_at_call 50; (with_reducible refine (CE.out _).mono ?_); rintro x w9 ⟨rfl, hb9⟩)
      | (go_at_call 53; refine (awake17 _).mono ?_; rintro x w10 ⟨rfl, hb10⟩))
    go_ret
    exact RetB.mk rfl (hbH.trans ((hb8.mono hbH.size).trans ((hb9.mono (Nat.le_trans hbH.size hb8.size)).trans (hb10.mono (Nat.le_trans hbH.size (Nat.le_trans hb8.size hb9.size))))))
theorem deads_c_false (u : Bool) (s : Int) (e c : Nat) (av : Option Addr) (m kk : Nat) (k1 n1 t1 b1 : Int) (ae ac : Nat) (k2 n2 t2 b2 : Int) (be bc : Nat) (w : World) (f1 : decide (be < ae) = false) (f2 : ((be : Int) == (ae : Int)) = true) (f3 : decide (bc ≤ ac) = false) (hd : deadB u e c ae ac = false) :
    Calls Try.prog 12 #[slotV u s e c (.slice av m kk), headV k1 n1 t1 b1 ae ac, headV k2 n2 t2 b2 be bc] w (RetB (.bool true) w) := by
  obtain ⟨v1, hv1⟩ : ∃ v1, v1 = slotV u s e c (.slice av m kk) := ⟨_, rfl⟩
  obtain ⟨v2, hv2⟩ : ∃ v2, v2 = headV k1 n1 t1 b1 ae ac := ⟨_, rfl⟩
  obtain ⟨v3, hv3⟩ : ∃ v3, v3 = headV k2 n2 t2 b2 be bc := ⟨_, rfl⟩
  rw [← hv1, ← hv2, ← hv3]
  have HV1 := Lib.hid hv1
  have HV2 := Lib.hid hv2
  have HV3 := Lib.hid hv3
  clear hv1 hv2 hv3
  have CD : RowKit.Hid (∀ w, Calls Try.prog 50 #[.agg #[.bool u, .int .i64 s, .int .u64 (e : Int), .int .u64 (c : Int), .slice av m kk], .agg #[.int .i64 k1, .int .i64 n1, .int .i64 t1, .int .u32 b1, .int .u64 (ae : Int), .int .u64 (ac : Int)]] w (RetB (.bool false) w)) := Lib.hid (fun w => by have h := dead_calls u s e c (.slice av m kk) k1 n1 t1 b1 ae ac w; rw [hd] at h; exact h)
  have CO : RowKit.Hid (∀ w, Calls Try.prog 52 #[.agg #[.bool u, .int .i64 s, .int .u64 (e : Int), .int .u64 (c : Int), .slice av m kk]] w (RetB (.agg #[.bool u, .int .i64 s, .int .u64 (e : Int), .int .u64 (c : Int), .slice av m kk]) w)) := Lib.hid (fun w => of_calls u s e c av m kk w)
  have CR : RowKit.Hid (∀ w, Calls Try.prog 51 #[.agg #[.bool u, .int .i64 s, .int .u64 (e : Int), .int .u64 (c : Int), .slice av m kk], .agg #[.int .i64 k1, .int .i64 n1, .int .i64 t1, .int .u32 b1, .int .u64 (ae : Int), .int .u64 (ac : Int)]] w (RetB (.bool false) w)) := Lib.hid (fun w => rdead_calls u s e c (.slice av m kk) k1 n1 t1 b1 ae ac _ (by rw [← dead_eq, hd]) w)
  clear hd
  go_enter Try.func12, Try.ntmps12
  go_wp2_with (first
    | (apply wpList_boxR v1; rfl; rfl; rfl; intro g1 w1 hg1 hg1' hr1 hb1; rw [HV1.out] at hr1)
    | (apply wpList_boxR v2; rfl; rfl; rfl; intro g2 w2 hg2 hg2' hr2 hb2; rw [HV2.out] at hr2; have hr12 := hr1.next hb2)
    | (apply wpList_boxR v3; rfl; rfl; rfl; intro g3 w3 hg3 hg3' hr3 hb3; rw [HV3.out] at hr3; have hr13 := hr12.next hb3; have hr23 := hr2.next hb3))
  have s1 := hb1.size
  have s2 := hb2.size
  have hb0 : Below w.heap.size w w3 := hb1.trans ((hb2.mono s1).trans (hb3.mono (Nat.le_trans s1 s2)))
  obtain ⟨K0, K1, K2, K3, K4⟩ := row5_at hr13
  obtain ⟨M0, M1, M2, M3, M4, M5⟩ := row6_at hr23
  clear hr1 hr12 hr2 hb1 hb2 hb3 s1 s2
  go_region_held3 (fun w' => Below w3.heap.size w3.drew w')
    (first | (with_reducible exact Below.refl _ _) | (with_reducible exact hS5) | (with_reducible exact hS6) | (with_reducible exact hS7))
    (first
      | (go_at_call 50; (with_reducible refine (CD.out _).mono ?_); rintro x w5 ⟨rfl, hb5⟩; have hS5 := below_call (w := w3) hb5 (by assumption))
      | (go_at_call 52; refine (CO.out _).mono ?_; rintro x w6 ⟨rfl, hb6⟩; have hS6 := below_call (w := w3) hb6 (by assumption))
      | (go_at_call 51; refine (CR.out _).mono ?_; rintro x w7 ⟨rfl, hb7⟩; have hS7 := below_call (w := w3) hb7 (by assumption)))
  all_goals
    have hH := Below.drewn ‹Below _ w3.drew _›
    have hq1 := hr13.next hH
    have hq2 := hr23.next hH
    have hq3 := hr3.next hH
    have hbH := hb0.trans (hH.mono hb0.size)
    obtain ⟨a0, a1, a2, a3, a4⟩ := row5 hq1
    obtain ⟨c0, c1, c2, c3, c4, c5⟩ := row6 hq2
    obtain ⟨d0, d1, d2, d3, d4, d5⟩ := row6 hq3
    clear K0 K1 K2 K3 K4 M0 M1 M2 M3 M4 M5 hH
    go_wp2_with (first
      | (go_at_call 53; refine (awake17 _).mono ?_; rintro x w10 ⟨rfl, hb10⟩))
    go_ret
    exact RetB.mk rfl (hbH.trans (hb10.mono hbH.size))
theorem deads_c_true (u : Bool) (s : Int) (e c : Nat) (av : Option Addr) (m kk : Nat) (k1 n1 t1 b1 : Int) (ae ac : Nat) (k2 n2 t2 b2 : Int) (be bc : Nat) (w : World) (f1 : decide (be < ae) = false) (f2 : ((be : Int) == (ae : Int)) = true) (f3 : decide (bc ≤ ac) = false) (hd : deadB u e c ae ac = true) :
    Calls Try.prog 12 #[slotV u s e c (.slice av m kk), headV k1 n1 t1 b1 ae ac, headV k2 n2 t2 b2 be bc] w (RetB (.bool true) w) := by
  obtain ⟨v1, hv1⟩ : ∃ v1, v1 = slotV u s e c (.slice av m kk) := ⟨_, rfl⟩
  obtain ⟨v2, hv2⟩ : ∃ v2, v2 = headV k1 n1 t1 b1 ae ac := ⟨_, rfl⟩
  obtain ⟨v3, hv3⟩ : ∃ v3, v3 = headV k2 n2 t2 b2 be bc := ⟨_, rfl⟩
  rw [← hv1, ← hv2, ← hv3]
  have HV1 := Lib.hid hv1
  have HV2 := Lib.hid hv2
  have HV3 := Lib.hid hv3
  clear hv1 hv2 hv3
  have CD : RowKit.Hid (∀ w, Calls Try.prog 50 #[.agg #[.bool u, .int .i64 s, .int .u64 (e : Int), .int .u64 (c : Int), .slice av m kk], .agg #[.int .i64 k1, .int .i64 n1, .int .i64 t1, .int .u32 b1, .int .u64 (ae : Int), .int .u64 (ac : Int)]] w (RetB (.bool true) w)) := Lib.hid (fun w => by have h := dead_calls u s e c (.slice av m kk) k1 n1 t1 b1 ae ac w; rw [hd] at h; exact h)
  have CO : RowKit.Hid (∀ w, Calls Try.prog 52 #[.agg #[.bool u, .int .i64 s, .int .u64 (e : Int), .int .u64 (c : Int), .slice av m kk]] w (RetB (.agg #[.bool u, .int .i64 s, .int .u64 (e : Int), .int .u64 (c : Int), .slice av m kk]) w)) := Lib.hid (fun w => of_calls u s e c av m kk w)
  have CR : RowKit.Hid (∀ w, Calls Try.prog 51 #[.agg #[.bool u, .int .i64 s, .int .u64 (e : Int), .int .u64 (c : Int), .slice av m kk], .agg #[.int .i64 k1, .int .i64 n1, .int .i64 t1, .int .u32 b1, .int .u64 (ae : Int), .int .u64 (ac : Int)]] w (RetB (.bool true) w)) := Lib.hid (fun w => rdead_calls u s e c (.slice av m kk) k1 n1 t1 b1 ae ac _ (by rw [← dead_eq, hd]) w)
  clear hd
  go_enter Try.func12, Try.ntmps12
  go_wp2_with (first
    | (apply wpList_boxR v1; rfl; rfl; rfl; intro g1 w1 hg1 hg1' hr1 hb1; rw [HV1.out] at hr1)
    | (apply wpList_boxR v2; rfl; rfl; rfl; intro g2 w2 hg2 hg2' hr2 hb2; rw [HV2.out] at hr2; have hr12 := hr1.next hb2)
    | (apply wpList_boxR v3; rfl; rfl; rfl; intro g3 w3 hg3 hg3' hr3 hb3; rw [HV3.out] at hr3; have hr13 := hr12.next hb3; have hr23 := hr2.next hb3))
  have s1 := hb1.size
  have s2 := hb2.size
  have hb0 : Below w.heap.size w w3 := hb1.trans ((hb2.mono s1).trans (hb3.mono (Nat.le_trans s1 s2)))
  obtain ⟨K0, K1, K2, K3, K4⟩ := row5_at hr13
  obtain ⟨M0, M1, M2, M3, M4, M5⟩ := row6_at hr23
  clear hr1 hr12 hr2 hb1 hb2 hb3 s1 s2
  go_region_held3 (fun w' => Below w3.heap.size w3.drew w')
    (first | (with_reducible exact Below.refl _ _) | (with_reducible exact hS5) | (with_reducible exact hS6) | (with_reducible exact hS7))
    (first
      | (go_at_call 50; (with_reducible refine (CD.out _).mono ?_); rintro x w5 ⟨rfl, hb5⟩; have hS5 := below_call (w := w3) hb5 (by assumption))
      | (go_at_call 52; refine (CO.out _).mono ?_; rintro x w6 ⟨rfl, hb6⟩; have hS6 := below_call (w := w3) hb6 (by assumption))
      | (go_at_call 51; refine (CR.out _).mono ?_; rintro x w7 ⟨rfl, hb7⟩; have hS7 := below_call (w := w3) hb7 (by assumption)))
  all_goals
    have hH := Below.drewn ‹Below _ w3.drew _›
    have hq1 := hr13.next hH
    have hq2 := hr23.next hH
    have hq3 := hr3.next hH
    have hbH := hb0.trans (hH.mono hb0.size)
    obtain ⟨a0, a1, a2, a3, a4⟩ := row5 hq1
    obtain ⟨c0, c1, c2, c3, c4, c5⟩ := row6 hq2
    obtain ⟨d0, d1, d2, d3, d4, d5⟩ := row6 hq3
    clear K0 K1 K2 K3 K4 M0 M1 M2 M3 M4 M5 hH
    go_wp2_with (first
      | (go_at_call 53; refine (awake17 _).mono ?_; rintro x w10 ⟨rfl, hb10⟩))
    go_ret
    exact RetB.mk rfl (hbH.trans (hb10.mono hbH.size))
theorem deads_d_false (u : Bool) (s : Int) (e c : Nat) (av : Option Addr) (m kk : Nat) (k1 n1 t1 b1 : Int) (ae ac : Nat) (k2 n2 t2 b2 : Int) (be bc : Nat) (w : World) (f1 : decide (be < ae) = false) (f2 : ((be : Int) == (ae : Int)) = false) (hd : deadB u e c ae ac = false) :
    Calls Try.prog 12 #[slotV u s e c (.slice av m kk), headV k1 n1 t1 b1 ae ac, headV k2 n2 t2 b2 be bc] w (RetB (.bool true) w) := by
  obtain ⟨v1, hv1⟩ : ∃ v1, v1 = slotV u s e c (.slice av m kk) := ⟨_, rfl⟩
  obtain ⟨v2, hv2⟩ : ∃ v2, v2 = headV k1 n1 t1 b1 ae ac := ⟨_, rfl⟩
  obtain ⟨v3, hv3⟩ : ∃ v3, v3 = headV k2 n2 t2 b2 be bc := ⟨_, rfl⟩
  rw [← hv1, ← hv2, ← hv3]
  have HV1 := Lib.hid hv1
  have HV2 := Lib.hid hv2
  have HV3 := Lib.hid hv3
  clear hv1 hv2 hv3
  have CD : RowKit.Hid (∀ w, Calls Try.prog 50 #[.agg #[.bool u, .int .i64 s, .int .u64 (e : Int), .int .u64 (c : Int), .slice av m kk], .agg #[.int .i64 k1, .int .i64 n1, .int .i64 t1, .int .u32 b1, .int .u64 (ae : Int), .int .u64 (ac : Int)]] w (RetB (.bool false) w)) := Lib.hid (fun w => by have h := dead_calls u s e c (.slice av m kk) k1 n1 t1 b1 ae ac w; rw [hd] at h; exact h)
  have CO : RowKit.Hid (∀ w, Calls Try.prog 52 #[.agg #[.bool u, .int .i64 s, .int .u64 (e : Int), .int .u64 (c : Int), .slice av m kk]] w (RetB (.agg #[.bool u, .int .i64 s, .int .u64 (e : Int), .int .u64 (c : Int), .slice av m kk]) w)) := Lib.hid (fun w => of_calls u s e c av m kk w)
  have CR : RowKit.Hid (∀ w, Calls Try.prog 51 #[.agg #[.bool u, .int .i64 s, .int .u64 (e : Int), .int .u64 (c : Int), .slice av m kk], .agg #[.int .i64 k1, .int .i64 n1, .int .i64 t1, .int .u32 b1, .int .u64 (ae : Int), .int .u64 (ac : Int)]] w (RetB (.bool false) w)) := Lib.hid (fun w => rdead_calls u s e c (.slice av m kk) k1 n1 t1 b1 ae ac _ (by rw [← dead_eq, hd]) w)
  clear hd
  go_enter Try.func12, Try.ntmps12
  go_wp2_with (first
    | (apply wpList_boxR v1; rfl; rfl; rfl; intro g1 w1 hg1 hg1' hr1 hb1; rw [HV1.out] at hr1)
    | (apply wpList_boxR v2; rfl; rfl; rfl; intro g2 w2 hg2 hg2' hr2 hb2; rw [HV2.out] at hr2; have hr12 := hr1.next hb2)
    | (apply wpList_boxR v3; rfl; rfl; rfl; intro g3 w3 hg3 hg3' hr3 hb3; rw [HV3.out] at hr3; have hr13 := hr12.next hb3; have hr23 := hr2.next hb3))
  have s1 := hb1.size
  have s2 := hb2.size
  have hb0 : Below w.heap.size w w3 := hb1.trans ((hb2.mono s1).trans (hb3.mono (Nat.le_trans s1 s2)))
  obtain ⟨K0, K1, K2, K3, K4⟩ := row5_at hr13
  obtain ⟨M0, M1, M2, M3, M4, M5⟩ := row6_at hr23
  clear hr1 hr12 hr2 hb1 hb2 hb3 s1 s2
  go_region_held3 (fun w' => Below w3.heap.size w3.drew w')
    (first | (with_reducible exact Below.refl _ _) | (with_reducible exact hS5) | (with_reducible exact hS6) | (with_reducible exact hS7))
    (first
      | (go_at_call 50; (with_reducible refine (CD.out _).mono ?_); rintro x w5 ⟨rfl, hb5⟩; have hS5 := below_call (w := w3) hb5 (by assumption))
      | (go_at_call 52; refine (CO.out _).mono ?_; rintro x w6 ⟨rfl, hb6⟩; have hS6 := below_call (w := w3) hb6 (by assumption))
      | (go_at_call 51; refine (CR.out _).mono ?_; rintro x w7 ⟨rfl, hb7⟩; have hS7 := below_call (w := w3) hb7 (by assumption)))
  all_goals
    have hH := Below.drewn ‹Below _ w3.drew _›
    have hq1 := hr13.next hH
    have hq2 := hr23.next hH
    have hq3 := hr3.next hH
    have hbH := hb0.trans (hH.mono hb0.size)
    obtain ⟨a0, a1, a2, a3, a4⟩ := row5 hq1
    obtain ⟨c0, c1, c2, c3, c4, c5⟩ := row6 hq2
    obtain ⟨d0, d1, d2, d3, d4, d5⟩ := row6 hq3
    clear K0 K1 K2 K3 K4 M0 M1 M2 M3 M4 M5 hH
    go_wp2_with (first
      | (go_at_call 53; refine (awake17 _).mono ?_; rintro x w10 ⟨rfl, hb10⟩))
    go_ret
    exact RetB.mk rfl (hbH.trans (hb10.mono hbH.size))
theorem deads_d_true (u : Bool) (s : Int) (e c : Nat) (av : Option Addr) (m kk : Nat) (k1 n1 t1 b1 : Int) (ae ac : Nat) (k2 n2 t2 b2 : Int) (be bc : Nat) (w : World) (f1 : decide (be < ae) = false) (f2 : ((be : Int) == (ae : Int)) = false) (hd : deadB u e c ae ac = true) :
    Calls Try.prog 12 #[slotV u s e c (.slice av m kk), headV k1 n1 t1 b1 ae ac, headV k2 n2 t2 b2 be bc] w (RetB (.bool true) w) := by
  obtain ⟨v1, hv1⟩ : ∃ v1, v1 = slotV u s e c (.slice av m kk) := ⟨_, rfl⟩
  obtain ⟨v2, hv2⟩ : ∃ v2, v2 = headV k1 n1 t1 b1 ae ac := ⟨_, rfl⟩
  obtain ⟨v3, hv3⟩ : ∃ v3, v3 = headV k2 n2 t2 b2 be bc := ⟨_, rfl⟩
  rw [← hv1, ← hv2, ← hv3]
  have HV1 := Lib.hid hv1
  have HV2 := Lib.hid hv2
  have HV3 := Lib.hid hv3
  clear hv1 hv2 hv3
  have CD : RowKit.Hid (∀ w, Calls Try.prog 50 #[.agg #[.bool u, .int .i64 s, .int .u64 (e : Int), .int .u64 (c : Int), .slice av m kk], .agg #[.int .i64 k1, .int .i64 n1, .int .i64 t1, .int .u32 b1, .int .u64 (ae : Int), .int .u64 (ac : Int)]] w (RetB (.bool true) w)) := Lib.hid (fun w => by have h := dead_calls u s e c (.slice av m kk) k1 n1 t1 b1 ae ac w; rw [hd] at h; exact h)
  have CO : RowKit.Hid (∀ w, Calls Try.prog 52 #[.agg #[.bool u, .int .i64 s, .int .u64 (e : Int), .int .u64 (c : Int), .slice av m kk]] w (RetB (.agg #[.bool u, .int .i64 s, .int .u64 (e : Int), .int .u64 (c : Int), .slice av m kk]) w)) := Lib.hid (fun w => of_calls u s e c av m kk w)
  have CR : RowKit.Hid (∀ w, Calls Try.prog 51 #[.agg #[.bool u, .int .i64 s, .int .u64 (e : Int), .int .u64 (c : Int), .slice av m kk], .agg #[.int .i64 k1, .int .i64 n1, .int .i64 t1, .int .u32 b1, .int .u64 (ae : Int), .int .u64 (ac : Int)]] w (RetB (.bool true) w)) := Lib.hid (fun w => rdead_calls u s e c (.slice av m kk) k1 n1 t1 b1 ae ac _ (by rw [← dead_eq, hd]) w)
  clear hd
  go_enter Try.func12, Try.ntmps12
  go_wp2_with (first
    | (apply wpList_boxR v1; rfl; rfl; rfl; intro g1 w1 hg1 hg1' hr1 hb1; rw [HV1.out] at hr1)
    | (apply wpList_boxR v2; rfl; rfl; rfl; intro g2 w2 hg2 hg2' hr2 hb2; rw [HV2.out] at hr2; have hr12 := hr1.next hb2)
    | (apply wpList_boxR v3; rfl; rfl; rfl; intro g3 w3 hg3 hg3' hr3 hb3; rw [HV3.out] at hr3; have hr13 := hr12.next hb3; have hr23 := hr2.next hb3))
  have s1 := hb1.size
  have s2 := hb2.size
  have hb0 : Below w.heap.size w w3 := hb1.trans ((hb2.mono s1).trans (hb3.mono (Nat.le_trans s1 s2)))
  obtain ⟨K0, K1, K2, K3, K4⟩ := row5_at hr13
  obtain ⟨M0, M1, M2, M3, M4, M5⟩ := row6_at hr23
  clear hr1 hr12 hr2 hb1 hb2 hb3 s1 s2
  go_region_held3 (fun w' => Below w3.heap.size w3.drew w')
    (first | (with_reducible exact Below.refl _ _) | (with_reducible exact hS5) | (with_reducible exact hS6) | (with_reducible exact hS7))
    (first
      | (go_at_call 50; (with_reducible refine (CD.out _).mono ?_); rintro x w5 ⟨rfl, hb5⟩; have hS5 := below_call (w := w3) hb5 (by assumption))
      | (go_at_call 52; refine (CO.out _).mono ?_; rintro x w6 ⟨rfl, hb6⟩; have hS6 := below_call (w := w3) hb6 (by assumption))
      | (go_at_call 51; refine (CR.out _).mono ?_; rintro x w7 ⟨rfl, hb7⟩; have hS7 := below_call (w := w3) hb7 (by assumption)))
  all_goals
    have hH := Below.drewn ‹Below _ w3.drew _›
    have hq1 := hr13.next hH
    have hq2 := hr23.next hH
    have hq3 := hr3.next hH
    have hbH := hb0.trans (hH.mono hb0.size)
    obtain ⟨a0, a1, a2, a3, a4⟩ := row5 hq1
    obtain ⟨c0, c1, c2, c3, c4, c5⟩ := row6 hq2
    obtain ⟨d0, d1, d2, d3, d4, d5⟩ := row6 hq3
    clear K0 K1 K2 K3 K4 M0 M1 M2 M3 M4 M5 hH
    go_wp2_with (first
      | (go_at_call 53; refine (awake17 _).mono ?_; rintro x w10 ⟨rfl, hb10⟩))
    go_ret
    exact RetB.mk rfl (hbH.trans (hb10.mono hbH.size))
theorem slotDeads_walk (u : Bool) (s : Int) (e c : Nat) (av : Option Addr) (m kk : Nat) (k1 n1 t1 b1 : Int) (ae ac : Nat) (k2 n2 t2 b2 : Int) (be bc : Nat) (w : World) : Calls Try.prog 12 #[slotV u s e c (.slice av m kk), headV k1 n1 t1 b1 ae ac, headV k2 n2 t2 b2 be bc] w (RetB (.bool true) w) := by
  cases hd : deadB u e c ae ac with
  | false =>
    by_cases h1 : be < ae
    · exact deads_a_false u s e c av m kk k1 n1 t1 b1 ae ac k2 n2 t2 b2 be bc w (by simp [h1]) hd
    · by_cases h2 : be = ae
      · by_cases h3 : bc ≤ ac
        · exact deads_b_false u s e c av m kk k1 n1 t1 b1 ae ac k2 n2 t2 b2 be bc w (by simp [h1]) (by rw [beq_iff_eq]; omega) (by simp [h3]) hd
        · exact deads_c_false u s e c av m kk k1 n1 t1 b1 ae ac k2 n2 t2 b2 be bc w (by simp [h1]) (by rw [beq_iff_eq]; omega) (by simp [h3]) hd
      · exact deads_d_false u s e c av m kk k1 n1 t1 b1 ae ac k2 n2 t2 b2 be bc w (by simp [h1]) (by rw [beq_eq_false_iff_ne]; omega) hd
  | true =>
    by_cases h1 : be < ae
    · exact deads_a_true u s e c av m kk k1 n1 t1 b1 ae ac k2 n2 t2 b2 be bc w (by simp [h1]) hd (dead_ahead (.inl h1) hd)
    · by_cases h2 : be = ae
      · by_cases h3 : bc ≤ ac
        · exact deads_b_true u s e c av m kk k1 n1 t1 b1 ae ac k2 n2 t2 b2 be bc w (by simp [h1]) (by rw [beq_iff_eq]; omega) (by simp [h3]) hd (dead_ahead (.inr ⟨h2, h3⟩) hd)
        · exact deads_c_true u s e c av m kk k1 n1 t1 b1 ae ac k2 n2 t2 b2 be bc w (by simp [h1]) (by rw [beq_iff_eq]; omega) (by simp [h3]) hd
      · exact deads_d_true u s e c av m kk k1 n1 t1 b1 ae ac k2 n2 t2 b2 be bc w (by simp [h1]) (by rw [beq_eq_false_iff_ne]; omega) hd
end Go.Proofs.Ytfinekmegiengaa
