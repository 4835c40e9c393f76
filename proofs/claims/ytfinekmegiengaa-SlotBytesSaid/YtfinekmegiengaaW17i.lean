/- The walk of layer 17: a used slot's bytes. -/
import Derived.Test.YtfinekmegiengaaW17h
namespace Go.Proofs.Ytfinekmegiengaa
open Go.RowKit Nep
set_option maxRecDepth 100000
set_option linter.unusedVariables false
set_option linter.unusedSimpArgs false
set_option maxHeartbeats 2000000

/-- what a slot's bytes are behind so many numbers -/
def slotP (x1 x2 x3 : List Nat) : Nat → List Nat
  | 0 => [1, 0, 0, 0] ++ x1
  | 1 => [1, 0, 0, 0] ++ x1 ++ x2
  | _ => [1, 0, 0, 0] ++ x1 ++ x2 ++ x3
theorem sbytes_yes (s : Int) (e c : Nat) (v : Value) (l : List Nat) (w : World) (he : e < 18446744073709551616) (hc : c < 18446744073709551616) (hr : RdB w.heap.size w v l) (hok : slotOk true s e c l.length = true) : Calls Try.prog 62 #[slotV true s e c v] w (RetSE (slotB true s e c l) w) := by
  obtain ⟨v1, hv1⟩ : ∃ v1, v1 = slotV true s e c v := ⟨_, rfl⟩
  have HV1 := Lib.hid hv1
  rw [← hv1]
  obtain ⟨hs1, hs2, hl⟩ := slotOk_true.1 hok
  obtain ⟨x1, hx1⟩ : ∃ x, x = big s.toNat 4 := ⟨_, rfl⟩
  obtain ⟨x2, hx2⟩ : ∃ x, x = big e 8 := ⟨_, rfl⟩
  obtain ⟨x3, hx3⟩ : ∃ x, x = big c 8 := ⟨_, rfl⟩
  have hy : slotB true s e c l = [1, 0, 0, 0] ++ x1 ++ x2 ++ x3 ++ l := by rw [hx1, hx2, hx3]; rfl
  rw [hy]
  have hws : IntKind.u64.wrap s = s := u64_in s (by omega) (by omega)
  have l1 : x1.length = 4 := by rw [hx1, big_length]
  have l2 : x2.length = 8 := by rw [hx2, big_length]
  have l3 : x3.length = 8 := by rw [hx3, big_length]
  have C : RowKit.Hid (∀ w, RdB w.heap.size w v l → Calls Try.prog 64 #[.agg #[.bool true, .int .i64 s, .int .u64 (e : Int), .int .u64 (c : Int), v]] w (RetB (.bool true) w)) := Lib.hid (fun w hh => by have h2 := sright_calls true s e c v l w hh; rw [hok] at h2; exact h2)
  have C1 : RowKit.Hid (∀ w, Calls Try.prog 103 #[.int .u64 s, .int .i64 4] w (RetS x1 w)) := Lib.hid (fun w => hx1 ▸ big_calls s.toNat 4 (by omega) rfl (by omega) (by omega) w)
  have C2 : RowKit.Hid (∀ w, Calls Try.prog 103 #[.int .u64 (e : Int), .int .i64 8] w (RetS x2 w)) := Lib.hid (fun w => hx2 ▸ big_calls e 8 rfl rfl he (by omega) w)
  have C3 : RowKit.Hid (∀ w, Calls Try.prog 103 #[.int .u64 (c : Int), .int .i64 8] w (RetS x3 w)) := Lib.hid (fun w => hx3 ▸ big_calls c 8 rfl rfl hc (by omega) w)
  have hbuild : ∀ (e c : Int), Try.prog.built 139 [(0, .int .u64 e), (1, .int .u64 c)] = some #[.int .u64 e, .int .u64 c] := fun e c => by kernel_rfl
  have HB := Lib.hid hbuild
  have hi0 : ∀ w, (Instr.index 139 (.agg #[.int .u64 (e : Int), .int .u64 (c : Int)]) (.int .i64 0)).run Try.prog w = .ok (.int .u64 (e : Int)) w := fun w => run_index_agg (k := .i64) _ 0 _ w Try.underlying139 (by kernel_rfl) (by kernel_rfl) (by omega) rfl
  have hi1 : ∀ w, (Instr.index 139 (.agg #[.int .u64 (e : Int), .int .u64 (c : Int)]) (.int .i64 1)).run Try.prog w = .ok (.int .u64 (c : Int)) w := fun w => run_index_agg (k := .i64) _ 1 _ w Try.underlying139 (by kernel_rfl) (by kernel_rfl) (by omega) rfl
  clear hbuild
  clear hv1 hok hy hx1 hx2 hx3 he hc hs1 hs2
  go_enter Try.func62, Try.ntmps62
  go_wp2_with (first
    | (apply wpList_boxR v1; rfl; rfl; rfl; intro g1 w1 hg1 hg1' hr1 hb1; rw [HV1.out] at hr1; have ha1 := hr.next hb1; obtain ⟨a0, a1, a2, a3, a4⟩ := row5 hr1)
    | (go_at_call 64; (with_reducible refine (C.out _ ha1).mono ?_); rintro x w0 ⟨rfl, hb0⟩; have ha0 := ha1.next hb0; have hr0 := hr1.next hb0; obtain ⟨z0, z1, z2, z3, z4⟩ := row5 hr0)
    | (apply wpList_buildB [1, 0, 0, 0]; exact of_decide_eq_true rfl; rfl; rfl; rfl; intro g2 w2 hg21 hg22 ho2 hb2; have ha2 := ha0.next hb2; have hr2 := hr0.next hb2; obtain ⟨b0, b1, b2, b3, b4⟩ := row5 hr2)
    | (go_at_call 103; (with_reducible refine (C1.out _).mono ?_); rintro x w3 ⟨vb1, rfl, hy3, hb3⟩; have ho3 := own_next ho2 hb3)
    | (at_builtin; apply wpList_appendB ho3 (RdB.of_own hy3); rfl; rfl; rfl; rfl; simp; omega; exact Nat.le_trans hb2.size hb3.size; intro v4 w4 ho4 hg4; have hb4 := below_own hg4 ho3 (Nat.le_refl _) (Nat.le_trans hb2.size hb3.size); have hb24 := hb2.trans ((hb3.mono hb2.size).trans hb4); have ha4 := ha0.next hb24; have hr4 := hr0.next hb24; obtain ⟨c0, c1, c2, c3, c4⟩ := row5 hr4)
    | (refine wpList_buildP _ _ (HB.out (e : Int) (c : Int)) rfl rfl rfl ?_))
  clear a0 a1 a2 a3 a4 z0 z1 z2 z3 z4 b0 b1 b2 b3 b4 c0 c1 c2 c3 c4
  have hb04 : Below w.heap.size w w4 := hb1.trans ((hb0.mono hb1.size).trans (hb24.mono (Nat.le_trans hb1.size hb0.size)))
  have s0 : w.heap.size ≤ w0.heap.size := Nat.le_trans hb1.size hb0.size
  have ho4' := own_base ho4 s0
  have s4 := hb24.size
  go_loopw [4, 26] (fun o i wr => ∃ k : Nat, (k = 0 ∧ i = .int .i64 0 ∨ k = 1 ∧ i = .int .i64 1 ∨ k = 2 ∧ i = .int .i64 2) ∧ wr.ownsRow w0.heap.size 5 1 o (slotP x1 x2 x3 k).length (bv (slotP x1 x2 x3 k)) ∧ Below w0.heap.size w0 wr) (fun _ i _ => 2 - (intOf i).toNat)
  case atStart => exact ⟨0, .inl ⟨rfl, rfl⟩, ho4, hb24⟩
  case round =>
    obtain ⟨k, hk, hown, hbk⟩ := hrel
    clear ho4 ho4' ha4 hr4
    have hbs := hbk.size
    rcases hk with ⟨rfl, rfl⟩ | ⟨rfl, rfl⟩ | ⟨rfl, rfl⟩
    · go_wp2_with (first
        | (go_at_call 103; (with_reducible refine (C2.out _).mono ?_); rintro x w5 ⟨vb2, rfl, hy5, hb5⟩; have ho5 := own_next hown hb5; have hb25 := hbk.trans (hb5.mono hbs))
        | (at_builtin; apply wpList_appendB ho5 (RdB.of_own hy5); rfl; rfl; rfl; rfl; simp [slotP]; omega; exact hb25.size; intro v6 w6 ho6 hg6; have hb6 := below_own hg6 ho5 (Nat.le_refl _) hb25.size; have hb26 := hb25.trans hb6))
      go_roundw
      case rel => exact ⟨1, .inr (.inl ⟨rfl, by first | rfl | go_num⟩), ho6, hb26⟩
      case measure => simp [intOf]
    · go_wp2_with (first
        | (go_at_call 103; (with_reducible refine (C3.out _).mono ?_); rintro x w5 ⟨vb2, rfl, hy5, hb5⟩; have ho5 := own_next hown hb5; have hb25 := hbk.trans (hb5.mono hbs))
        | (at_builtin; apply wpList_appendB ho5 (RdB.of_own hy5); rfl; rfl; rfl; rfl; simp [slotP]; omega; exact hb25.size; intro v6 w6 ho6 hg6; have hb6 := below_own hg6 ho5 (Nat.le_refl _) hb25.size; have hb26 := hb25.trans hb6))
      go_roundw
      case rel => exact ⟨2, .inr (.inr ⟨rfl, by first | rfl | go_num⟩), ho6, hb26⟩
      case measure => simp [intOf]
    · have har := ha0.next hbk
      obtain ⟨d0, d1, d2, d3, d4⟩ := row5 (hr0.next hbk)
      go_wp2_with (first
        | (at_builtin; apply wpList_appendB hown har; rfl; rfl; rfl; rfl; simp [slotP]; omega; exact hbs; intro v9 w9 ho9 hg9; have hb9 := below_own hg9 hown (Nat.le_refl _) hbs; have hb29 := hbk.trans hb9))
      go_ret2
      exact ⟨_, rfl, own_base ho9 s0, hb1.trans ((hb0.mono hb1.size).trans (hb29.mono s0))⟩
end Go.Proofs.Ytfinekmegiengaa
