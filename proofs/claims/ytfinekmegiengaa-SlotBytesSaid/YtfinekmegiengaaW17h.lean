/- The walks of layer 17: a slot copied; a slot's bytes. -/
import Derived.Test.YtfinekmegiengaaW17g
import Derived.Test.YtfinekmegiengaaW10d
namespace Go.Proofs.Ytfinekmegiengaa
open Go.RowKit Nep
set_option maxRecDepth 100000
set_option linter.unusedVariables false
set_option linter.unusedSimpArgs false
set_option maxHeartbeats 2000000

/-- it returns a slot with these bytes, of its own -/
def RetSo (u : Bool) (s : Int) (e c : Nat) (ys : List Nat) (w : World) (x : Ending) (w' : World) : Prop := ∃ av k, x = .returned (slotV u s e c (.slice av ys.length k)) ∧ w'.ownsRow w.heap.size 5 1 (.slice av ys.length k) ys.length (bv ys) ∧ Below w.heap.size w w'
theorem u64_in (z : Int) (h0 : 0 ≤ z) (h1 : z < 18446744073709551616) : IntKind.u64.wrap z = z := by
  unfold IntKind.wrap
  simp [IntKind.bits, IntKind.signed]
  omega
theorem scopy_calls (u : Bool) (s : Int) (e c : Nat) (v : Value) (l : List Nat) (w : World) (hr : RdB w.heap.size w v l) (hn : l.length ≤ 1000) : Calls Try.prog 63 #[slotV u s e c v] w (RetSo u s e c l w) := by
  obtain ⟨v1, hv1⟩ : ∃ v1, v1 = slotV u s e c v := ⟨_, rfl⟩
  have HV1 := Lib.hid hv1
  rw [← hv1]
  clear hv1
  go_enter Try.func63, Try.ntmps63
  go_wp2_with (first
    | (apply wpList_boxR v1; rfl; rfl; rfl; intro g1 w1 hg1 hg1' hr1 hb1; rw [HV1.out] at hr1; have ha1 := hr.next hb1)
    | (apply wpList_allocR (.agg #[.bool false, .int .i64 0, .int .u64 0, .int .u64 0, .slice none 0 0]) 5; kernel_rfl; rfl; rfl; intro g2 w2 hg2 hg2' hr2 hb2; have ha2 := ha1.next hb2; have hr12 := hr1.next hb2)
    | (apply wpList_buildB []; exact of_decide_eq_true rfl; rfl; rfl; rfl; intro g3 w3 hg31 hg32 ho3 hb3; have ha3 := ha2.next hb3; have hr13 := hr12.next hb3; have hr23 := hr2.next hb3; obtain ⟨a0, a1, a2, a3, a4⟩ := row5 hr13)
    | (at_builtin; apply wpList_appendB ho3 ha3; rfl; rfl; rfl; rfl; simp; omega; exact hb3.size; intro v' w4 ho4 hgr4; rw [List.nil_append] at ho4; obtain ⟨av, kk, hvv⟩ := own_isSlice' ho4; subst hvv; have hb4 := below_own hgr4 ho3 (Nat.le_refl _) hb3.size; have hr14 := hr12.next (hb3.trans hb4); have hr24 := hr2.next (hb3.trans hb4); obtain ⟨c0, c1, c2, c3, c4⟩ := row5 hr14; have q4 := hr14.free 4; have hs := hr14.set 4 (.slice av l.length kk))
    | (apply wpList_storeRow (hr24.other (show g2 ≠ g1 by omega) (.slice av l.length kk)) #[.bool u, .int .i64 s, .int .u64 (e : Int), .int .u64 (c : Int), .slice av l.length kk]; rfl; rfl; rfl; rfl; kernel_rfl; rfl; (simp [Value.oneCell']); intro w5 hw5 hr5 hs5; have HW5 := Lib.hid hw5; clear hw5))
  refine ret_row rfl g2 _ _ (0, 0) _ rfl hr5 rfl Try.underlying55 rfl (by kernel_rfl) ?_
  have s1 := hb1.size
  have s2 := hb2.size
  have hb14 : Below w.heap.size w w4 := hb1.trans ((hb2.mono s1).trans ((hb3.trans hb4).mono (by omega)))
  refine ⟨av, kk, rfl, ?_, ?_⟩
  · rw [HW5.out]
    exact own_base (own_setRow17 (own_setCell ho4 (by omega) _) (by omega) _) (by omega)
  · rw [HW5.out]
    exact (below_setCell _ (by omega) |> hb14.trans).trans (below_row _ (by omega))
theorem sbytes_bad (u : Bool) (s : Int) (e c : Nat) (v : Value) (l : List Nat) (w : World) (hr : RdB w.heap.size w v l) (hok : slotOk u s e c l.length = false) : Calls Try.prog 62 #[slotV u s e c v] w (RetE 2 w) := by
  obtain ⟨v1, hv1⟩ : ∃ v1, v1 = slotV u s e c v := ⟨_, rfl⟩
  have HV1 := Lib.hid hv1
  rw [← hv1]
  have C : RowKit.Hid (∀ w, RdB w.heap.size w v l → Calls Try.prog 64 #[.agg #[.bool u, .int .i64 s, .int .u64 (e : Int), .int .u64 (c : Int), v]] w (RetB (.bool false) w)) := Lib.hid (fun w hh => by have h2 := sright_calls u s e c v l w hh; rw [hok] at h2; exact h2)
  clear hv1 hok
  go_enter Try.func62, Try.ntmps62
  go_wp2_with (first
    | (apply wpList_boxR v1; rfl; rfl; rfl; intro g1 w1 hg1 hg1' hr1 hb1; rw [HV1.out] at hr1; have ha1 := hr.next hb1; obtain ⟨a0, a1, a2, a3, a4⟩ := row5 hr1)
    | (go_at_call 64; (with_reducible refine (C.out _ ha1).mono ?_); rintro x w2 ⟨rfl, hb2⟩))
  go_ret2
  exact ⟨rfl, hb1.trans (hb2.mono hb1.size)⟩
theorem sbytes_none (s : Int) (e c : Nat) (v : Value) (l : List Nat) (w : World) (hr : RdB w.heap.size w v l) (hok : slotOk false s e c l.length = true) : Calls Try.prog 62 #[slotV false s e c v] w (RetSE (slotB false s e c l) w) := by
  obtain ⟨v1, hv1⟩ : ∃ v1, v1 = slotV false s e c v := ⟨_, rfl⟩
  have HV1 := Lib.hid hv1
  rw [← hv1]
  obtain ⟨y, hy⟩ : ∃ y, y = slotB false s e c l := ⟨_, rfl⟩
  rw [← hy]
  have C : RowKit.Hid (∀ w, RdB w.heap.size w v l → Calls Try.prog 64 #[.agg #[.bool false, .int .i64 s, .int .u64 (e : Int), .int .u64 (c : Int), v]] w (RetB (.bool true) w)) := Lib.hid (fun w hh => by have h2 := sright_calls false s e c v l w hh; rw [hok] at h2; exact h2)
  have CF : RowKit.Hid (∀ w, Calls Try.prog 124 #[.int .u8 0, .int .i64 128] w (RetS y w)) := Lib.hid (fun w => hy ▸ fill_calls 0 128 rfl rfl (by omega) w)
  clear hv1 hok hy
  go_enter Try.func62, Try.ntmps62
  go_wp2_with (first
    | (apply wpList_boxR v1; rfl; rfl; rfl; intro g1 w1 hg1 hg1' hr1 hb1; rw [HV1.out] at hr1; have ha1 := hr.next hb1; obtain ⟨a0, a1, a2, a3, a4⟩ := row5 hr1)
    | (go_at_call 64; (with_reducible refine (C.out _ ha1).mono ?_); rintro x w2 ⟨rfl, hb2⟩; obtain ⟨b0, b1, b2, b3, b4⟩ := row5 (hr1.next hb2))
    | (go_at_call 124; (with_reducible refine (CF.out _).mono ?_); rintro x w3 ⟨vy, rfl, hy3, hb3⟩))
  go_ret2
  exact ⟨_, rfl, own_base hy3 (Nat.le_trans hb1.size hb2.size), hb1.trans ((hb2.mono hb1.size).trans (hb3.mono (Nat.le_trans hb1.size hb2.size)))⟩
theorem rbytes_none (s : Int) (e c : Nat) (v : Value) (l : List Nat) (w : World) : Calls Try.prog 66 #[slotV false s e c v] w (RetS (slotB false s e c l) w) := by
  obtain ⟨v1, hv1⟩ : ∃ v1, v1 = slotV false s e c v := ⟨_, rfl⟩
  have HV1 := Lib.hid hv1
  rw [← hv1]
  obtain ⟨y, hy⟩ : ∃ y, y = slotB false s e c l := ⟨_, rfl⟩
  rw [← hy]
  have CF : RowKit.Hid (∀ w, Calls Try.prog 125 #[.int .u8 0, .int .i64 128] w (RetS y w)) := Lib.hid (fun w => hy ▸ rfill_calls 0 128 rfl rfl (by omega) w)
  clear hv1 hy
  go_enter Try.func66, Try.ntmps66
  go_wp2_with (first
    | (apply wpList_boxR v1; rfl; rfl; rfl; intro g1 w1 hg1 hg1' hr1 hb1; rw [HV1.out] at hr1; obtain ⟨a0, a1, a2, a3, a4⟩ := row5 hr1)
    | (go_at_call 125; (with_reducible refine (CF.out _).mono ?_); rintro x w3 ⟨vy, rfl, hy3, hb3⟩))
  go_ret
  exact ⟨_, rfl, own_base hy3 hb1.size, hb1.trans (hb3.mono hb1.size)⟩
theorem rbytes_yes (s : Int) (e c : Nat) (v : Value) (l : List Nat) (w : World) (he : e < 18446744073709551616) (hc : c < 18446744073709551616) (hr : RdB w.heap.size w v l) (hok : slotOk true s e c l.length = true) : Calls Try.prog 66 #[slotV true s e c v] w (RetS (slotB true s e c l) w) := by
  obtain ⟨v1, hv1⟩ : ∃ v1, v1 = slotV true s e c v := ⟨_, rfl⟩
  have HV1 := Lib.hid hv1
  rw [← hv1]
  obtain ⟨hs1, hs2, hl⟩ := slotOk_true.1 hok
  obtain ⟨x1, hx1⟩ : ∃ x, x = big s.toNat 4 := ⟨_, rfl⟩
  obtain ⟨x2, hx2⟩ : ∃ x, x = big e 8 := ⟨_, rfl⟩
  obtain ⟨x3, hx3⟩ : ∃ x, x = big c 8 := ⟨_, rfl⟩
  have hy : slotB true s e c l = [1, 0, 0, 0] ++ x1 ++ x2 ++ x3 ++ l := by rw [hx1, hx2, hx3]; rfl
  rw [hy]
  have hws : IntKind.u64.wrap s = s := u64_in s (by omega) (by omega)
  have l1 : x1.length = 4 := by rw [hx1, big_length]
  have l2 : x2.length = 8 := by rw [hx2, big_length]
  have l3 : x3.length = 8 := by rw [hx3, big_length]
  have C1 : RowKit.Hid (∀ w, Calls Try.prog 126 #[.int .u64 s, .int .i64 4] w (RetS x1 w)) := Lib.hid (fun w => hx1 ▸ rbig_calls s.toNat 4 (by omega) rfl (by omega) (by omega) w)
  have C2 : RowKit.Hid (∀ w, Calls Try.prog 126 #[.int .u64 (e : Int), .int .i64 8] w (RetS x2 w)) := Lib.hid (fun w => hx2 ▸ rbig_calls e 8 rfl rfl he (by omega) w)
  have C3 : RowKit.Hid (∀ w, Calls Try.prog 126 #[.int .u64 (c : Int), .int .i64 8] w (RetS x3 w)) := Lib.hid (fun w => hx3 ▸ rbig_calls c 8 rfl rfl hc (by omega) w)
  clear hv1 hok hy hx1 hx2 hx3 he hc hs1 hs2
  go_enter Try.func66, Try.ntmps66
  go_wp2_with (first
    | (apply wpList_boxR v1; rfl; rfl; rfl; intro g1 w1 hg1 hg1' hr1 hb1; rw [HV1.out] at hr1; have ha1 := hr.next hb1; obtain ⟨a0, a1, a2, a3, a4⟩ := row5 hr1)
    | (apply wpList_buildB [1, 0, 0, 0]; exact of_decide_eq_true rfl; rfl; rfl; rfl; intro g2 w2 hg21 hg22 ho2 hb2; have ha2 := ha1.next hb2; have hr2 := hr1.next hb2; obtain ⟨b0, b1, b2, b3, b4⟩ := row5 hr2)
    | (go_at_call 126; (with_reducible refine (C1.out _).mono ?_); rintro x w3 ⟨vb1, rfl, hy3, hb3⟩; have ha3 := ha2.next hb3; have hr3 := hr2.next hb3; have ho3 := own_next ho2 hb3)
    | (at_builtin; apply wpList_appendB ho3 (RdB.of_own hy3); rfl; rfl; rfl; rfl; simp; omega; exact Nat.le_trans hb2.size hb3.size; intro v4 w4 ho4 hg4; have hb4 := below_own hg4 ho3 (Nat.le_refl _) (Nat.le_trans hb2.size hb3.size); have hb24 := hb2.trans ((hb3.mono hb2.size).trans hb4); have ha4 := ha1.next hb24; have hr4 := hr1.next hb24; obtain ⟨c0, c1, c2, c3, c4⟩ := row5 hr4)
    | (go_at_call 126; (with_reducible refine (C2.out _).mono ?_); rintro x w5 ⟨vb2, rfl, hy5, hb5⟩; have ho5 := own_next ho4 hb5; have hb25 := hb24.trans (hb5.mono hb24.size))
    | (at_builtin; apply wpList_appendB ho5 (RdB.of_own hy5); rfl; rfl; rfl; rfl; simp; omega; exact hb25.size; intro v6 w6 ho6 hg6; have hb6 := below_own hg6 ho5 (Nat.le_refl _) hb25.size; have hb26 := hb25.trans hb6; have hr6 := hr1.next hb26; obtain ⟨d0, d1, d2, d3, d4⟩ := row5 hr6)
    | (go_at_call 126; (with_reducible refine (C3.out _).mono ?_); rintro x w7 ⟨vb3, rfl, hy7, hb7⟩; have ho7 := own_next ho6 hb7; have hb27 := hb26.trans (hb7.mono hb26.size))
    | (at_builtin; apply wpList_appendB ho7 (RdB.of_own hy7); rfl; rfl; rfl; rfl; simp; omega; exact hb27.size; intro v8 w8 ho8 hg8; have hb8 := below_own hg8 ho7 (Nat.le_refl _) hb27.size; have hb28 := hb27.trans hb8; have ha8 := ha1.next hb28; have hr8 := hr1.next hb28; obtain ⟨e0, e1, e2, e3, e4⟩ := row5 hr8)
    | (at_builtin; apply wpList_appendB ho8 ha8; rfl; rfl; rfl; rfl; simp; omega; exact hb28.size; intro v9 w9 ho9 hg9; have hb9 := below_own hg9 ho8 (Nat.le_refl _) hb28.size; have hb29 := hb28.trans hb9))
  go_ret
  exact ⟨_, rfl, own_base ho9 hb1.size, hb1.trans (hb29.mono hb1.size)⟩
end Go.Proofs.Ytfinekmegiengaa
