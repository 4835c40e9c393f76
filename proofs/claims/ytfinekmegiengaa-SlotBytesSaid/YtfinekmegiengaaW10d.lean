/- The walks of layers 1 and 10's reference: bytes filled, big and little, mixed. -/
import Derived.Test.YtfinekmegiengaaW10c
namespace Nep
def lit8 (n k : Nat) : List Nat := (List.range k).map fun j => n / 256 ^ j % 256
theorem lit8_length (n k : Nat) : (lit8 n k).length = k := by simp [lit8]
theorem lit8_snoc (n k : Nat) : lit8 n (k + 1) = lit8 n k ++ [n / 256 ^ k % 256] := by simp [lit8, List.range_succ]
theorem lit8_bytes (n k : Nat) : ∀ y ∈ lit8 n k, y < 256 := fun y hy => by
  simp only [lit8, List.mem_map] at hy
  obtain ⟨j, _, rfl⟩ := hy
  exact Nat.mod_lt _ (by omega)
theorem lit8_reverse (n k : Nat) : (lit8 n k).reverse = big n k := by
  apply List.ext_getElem (by simp [lit8, big])
  intro i h1 h2
  simp [lit8, big, List.getElem_reverse]
end Nep
namespace Go.Proofs.Ytfinekmegiengaa
open Go.RowKit Nep
set_option maxRecDepth 100000
set_option linter.unusedVariables false
set_option linter.unusedSimpArgs false
set_option maxHeartbeats 1000000

theorem rfill_calls (x n : Nat) {X A : Int} (hX : X = x) (hA : A = n) (hn : n ≤ 65536) (w : World) : Calls Try.prog 125 #[.int .u8 X, .int .i64 A] w (RetS (List.replicate n x) w) := by
  subst hX hA
  go_enter Try.func125, Try.ntmps125
  go_wp2_with (first | (apply wpList_buildB []; exact of_decide_eq_true rfl; rfl; rfl; rfl; intro g0 w0 hg01 hg02 hown0 hb0))
  go_loopw [5, 6] (fun s i wr => ∃ k : Nat, k ≤ n ∧ i = .int .i64 k ∧ wr.ownsRow w.heap.size 5 1 s (List.replicate k x).length (bv (List.replicate k x)) ∧ Below w.heap.size w wr) (fun _ i _ => n - (intOf i).toNat)
  case atStart => exact ⟨0, by omega, rfl, hown0, hb0⟩
  case round =>
    obtain ⟨k, hk, rfl, hown, hbk⟩ := hrel
    clear hown0
    by_cases hlt : k < n
    · have hs : List.replicate (k + 1) x = List.replicate k x ++ [x] := List.replicate_succ'
      have hl1 : (k : Int) < (n : Int) := by omega
      have hl2 : (k : Int) < 65536 := by omega
      have hbs := hbk.size
      have HS := Lib.hid hs
      clear hs
      go_wp2_with (first | (apply wpList_buildB [x]; exact of_decide_eq_true rfl; rfl; rfl; rfl; intro gb wb hgb1 hgb2 hob hbb) | (at_builtin; apply wpList_appendB (own_next hown hbb) (RdB.of_own hob); rfl; rfl; rfl; rfl; simp; omega; omega; intro v' w' hown' hgr'))
      have hb' := below_own hgr' (own_next hown hbb) (Nat.le_refl _) (by omega)
      go_roundw
      case rel => exact ⟨k + 1, by omega, by go_num, by rw [HS.out]; exact hown', hbk.trans ((hbb.mono hbs).trans hb')⟩
      case measure => simp [intOf]; omega
    · go_wp2_with fail
      go_ret
      obtain rfl : k = n := by omega
      exact ⟨_, rfl, hown, hbk⟩

theorem rlittle_calls (m n : Nat) {X A : Int} (hX : X = m) (hA : A = n) (hm : m < 18446744073709551616) (hn : n ≤ 8) (w : World) : Calls Try.prog 156 #[.int .u64 X, .int .i64 A] w (RetS (lit8 m n) w) := by
  subst hX hA
  go_enter Try.func156, Try.ntmps156
  go_wp2_with (first | (apply wpList_buildB []; exact of_decide_eq_true rfl; rfl; rfl; rfl; intro g0 w0 hg01 hg02 hown0 hb0))
  go_loopw [0, 5, 6] (fun v s i wr => ∃ k : Nat, k ≤ n ∧ v = .int .u64 ((m / 256 ^ k : Nat) : Int) ∧ i = .int .i64 k ∧ wr.ownsRow w.heap.size 5 1 s (lit8 m k).length (bv (lit8 m k)) ∧ Below w.heap.size w wr) (fun _ _ i _ => n - (intOf i).toNat)
  case atStart => exact ⟨0, by omega, by simp, rfl, hown0, hb0⟩
  case round =>
    obtain ⟨k, hk, rfl, rfl, hown, hbk⟩ := hrel
    clear hown0
    by_cases hlt : k < n
    · obtain ⟨q, hq⟩ : ∃ q, q = m / 256 ^ k := ⟨_, rfl⟩
      obtain ⟨x, hx⟩ : ∃ x, x = q % 256 := ⟨_, rfl⟩
      have hs : lit8 m (k + 1) = lit8 m k ++ [x] := by rw [lit8_snoc, hx, hq]
      have hq1 : m / 256 ^ (k + 1) = q / 256 := by rw [Nat.pow_succ, ← Nat.div_div_eq_div_mul, hq]
      have hqm : q ≤ m := by rw [hq]; exact Nat.div_le_self _ _
      rw [← hq]
      have hx8 : x < 256 := by omega
      have hl1 : (k : Int) < (n : Int) := by omega
      have hl2 : (k : Int) < 8 := by omega
      have hbs := hbk.size
      have htl := lit8_length m k
      have ex : (q : Int) % 256 = (x : Int) := by omega
      have HS := Lib.hid hs
      have HQ1 := Lib.hid hq1
      have HTL := Lib.hid htl
      clear hs hq1 htl hq hx
      go_wp2_with (first | (apply wpList_buildB [x]; exact of_decide_eq_true rfl; rfl; rfl; rfl; intro gb wb hgb1 hgb2 hob hbb) | (at_builtin; apply wpList_appendB (own_next hown hbb) (RdB.of_own hob); rfl; rfl; rfl; rfl; rw [HTL.out]; simp; omega; omega; intro v' w' hown' hgr'))
      have hb' := below_own hgr' (own_next hown hbb) (Nat.le_refl _) (by omega)
      go_roundw
      case rel => exact ⟨k + 1, by omega, by rw [HQ1.out]; go_num, by go_num, by rw [HS.out]; exact hown', hbk.trans ((hbb.mono hbs).trans hb')⟩
      case measure => simp [intOf]; omega
    · go_wp2_with fail
      go_ret
      obtain rfl : k = n := by omega
      exact ⟨_, rfl, hown, hbk⟩

theorem rbig_calls (m n : Nat) {X A : Int} (hX : X = m) (hA : A = n) (hm : m < 18446744073709551616) (hn : n ≤ 8) (w : World) : Calls Try.prog 126 #[.int .u64 X, .int .i64 A] w (RetS (big m n) w) := by
  subst hX hA
  have C1 : RowKit.Hid (∀ w, Calls Try.prog 156 #[.int .u64 (m : Int), .int .i64 (n : Int)] w (RetS (lit8 m n) w)) := Lib.hid (fun w => rlittle_calls m n rfl rfl hm hn w)
  have C2 : RowKit.Hid (∀ v w, RdB w.heap.size w v (lit8 m n) → Calls Try.prog 107 #[v] w (RetS (big m n) w)) := Lib.hid (fun v w h => lit8_reverse m n ▸ rback_calls v (lit8 m n) w (lit8_bytes m n) h (by rw [lit8_length]; omega))
  clear hm hn
  go_enter Try.func126, Try.ntmps126
  go_wp2_with (first
    | (go_at_call 156; refine (C1.out _).mono ?_; rintro e w1 ⟨v1, rfl, ho1, hb1⟩)
    | (go_at_call 107; refine (C2.out _ _ (RdB.of_own ho1)).mono ?_; rintro e w2 ⟨v2, rfl, ho2, hb2⟩))
  go_ret
  exact ⟨_, rfl, own_base ho2 hb1.size, hb1.trans (hb2.mono hb1.size)⟩

theorem rmixed10_calls (v : Value) (a : List Nat) (n : Nat) {A : Int} (hA : A = n) (hn : n ≤ 100000) (w : World) (hab : Bytes a) (hr : RdB w.heap.size w v a) (hl : a.length = 8) : Calls Try.prog 131 #[v, .int .i64 A] w (RetS (mix8 a n) w) := by
  subst hA
  have C1 : RowKit.Hid (∀ w, Calls Try.prog 126 #[.int .u64 (n : Int), .int .i64 8] w (RetS (big n 8) w)) := Lib.hid (fun w => rbig_calls n 8 rfl rfl (by omega) (by omega) w)
  have C2 : RowKit.Hid (∀ vb w, RdB w.heap.size w v a → RdB w.heap.size w vb (big n 8) → Calls Try.prog 105 #[v, vb] w (RetS (mix8 a n) w)) := Lib.hid (fun vb w h1 h2 => rxor_calls v vb a (big n 8) w hab (big_bytes n 8) h1 h2 (by rw [big_length, hl]) (by omega))
  clear hl
  go_enter Try.func131, Try.ntmps131
  go_wp2_with (first
    | (go_at_call 126; refine (C1.out _).mono ?_; rintro e w1 ⟨v1, rfl, ho1, hb1⟩)
    | (go_at_call 105; refine (C2.out _ _ (hr.next hb1) (RdB.of_own ho1)).mono ?_; rintro e w2 ⟨v2, rfl, ho2, hb2⟩))
  go_ret
  exact ⟨_, rfl, own_base ho2 hb1.size, hb1.trans (hb2.mono hb1.size)⟩
end Go.Proofs.Ytfinekmegiengaa
