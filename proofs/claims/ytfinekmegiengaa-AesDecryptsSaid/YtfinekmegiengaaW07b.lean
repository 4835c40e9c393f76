/- The walk of layer 7: a key's words. -/
import Derived.Test.YtfinekmegiengaaMem5
import Derived.Test.YtfinekmegiengaaPlainD
import Derived.Test.YtfinekmegiengaaW01
import Derived.Test.YtfinekmegiengaaW06d
import Derived.Test.YtfinekmegiengaaW07a
namespace Go.Proofs.Ytfinekmegiengaa
open Go.RowKit Nep
set_option maxRecDepth 100000
set_option linter.unusedVariables false
set_option maxHeartbeats 1000000

/-- it returns words of its own, and OK -/
def RetWE (ys : List Nat) (w : World) (e : Ending) (w' : World) : Prop :=
  ∃ v', e = .returned (.tuple #[v', .int .i64 0]) ∧ w'.ownsRow w.heap.size 25 1 v' ys.length (wv ys) ∧ Below w.heap.size w w'

theorem expand_short (v : Value) (key : List Nat) (w : World) (hr : RdB w.heap.size w v key) (h : key.length ≠ 32) : Calls Try.prog 36 #[v] w (RetE 2 w) := by
  have hne : ((key.length : Int) != 32) = true := by simp; omega
  go_enter Try.func36, Try.ntmps36
  go_wp2_with (first | (refine wpList_lenB hr rfl rfl rfl ?_))
  go_ret2
  exact ⟨rfl, Below.refl _ _⟩

theorem expand_calls (v : Value) (key : List Nat) (w : World) (hb : Bytes key) (hr : RdB w.heap.size w v key) (h32 : key.length = 32) : Calls Try.prog 36 #[v] w (RetWE (wsL key) w) := by
  have hng : ((key.length : Int) != 32) = false := by rw [h32]; rfl
  obtain ⟨ws, hws⟩ : ∃ ws, ws = wsL key := ⟨_, rfl⟩
  have hwl : ws.length = 60 := by rw [hws, wsL_length]
  have HW := Lib.hid hws
  have HWL := Lib.hid hwl
  have H32 := Lib.hid h32
  rw [← hws]
  clear hws hwl h32
  have hr0 := hr
  go_enter Try.func36, Try.ntmps36
  go_wp2_with (first | (refine wpList_lenB hr rfl rfl rfl ?_))
  clear hr
  go_loopw [4, 10] (fun s i wr => ∃ k : Nat, k ≤ 60 ∧ i = .int .i64 k ∧ wr.ownsRow w.heap.size 25 1 s (ws.take k).length (wv (ws.take k)) ∧ Below w.heap.size w wr) (fun _ i _ => 60 - (intOf i).toNat)
  case atStart => exact ⟨0, by omega, rfl, World.ownsRow_nil _ _ _ _, Below.refl _ _⟩
  case round =>
    obtain ⟨k, hk, rfl, hown, hbk⟩ := hrel
    have hrk := hr0.mono hbk
    have hbs := hbk.size
    have htl : (ws.take k).length = k := by rw [List.length_take, HWL.out]; omega
    have HTL := Lib.hid htl
    clear htl
    by_cases hlt : k < 60
    · obtain ⟨x, hx⟩ : ∃ x, x = ws.getD k 0 := ⟨_, rfl⟩
      have hs : ws.take (k + 1) = ws.take k ++ [x] := by rw [take_succ_getD _ _ (by rw [HWL.out]; exact hlt), hx]
      have HS := Lib.hid hs
      have hx32 : x < 4294967296 := by rw [hx, HW.out]; exact wsL_lt key H32.out hb k
      by_cases h8 : k < 8
      · have hxe : x = num ((key.drop (4 * k)).take 4) := by rw [hx, HW.out, wsL_low key k h8]
        have hsl : ((key.drop (4 * k)).take (4 * k + 4 - 4 * k)) = (key.drop (4 * k)).take 4 := by rw [show 4 * k + 4 - 4 * k = 4 from by omega]
        have HSL := Lib.hid hsl
        have hlen4 : ((key.drop (4 * k)).take 4).length ≤ 8 := by rw [List.length_take]; omega
        have C1 : ∀ v' w', RdB w.heap.size w' v' ((key.drop (4 * k)).take 4) → Calls Try.prog 100 #[v'] w' (RetP (.int .u64 x) w') := fun v' w' h => hxe ▸ num_calls v' _ w' ((hb.drop _).take _) h hlen4
        have HC1 := Lib.hid C1
        have hkl : 4 * k + 4 ≤ key.length := by rw [H32.out]; omega
        clear hs hx hxe hsl C1 hlen4
        go_wp2_with (first
          | (apply wpList_cutB hrk (4 * k) (4 * k + 4); rfl; rfl; rfl; exact .inr ⟨_, _, rfl, by omega⟩; exact .inr ⟨_, _, rfl, by omega⟩; exact .inr ⟨_, _, 4 * k + 4, rfl, by omega, by omega, by omega⟩; omega; omega; intro v' hr'; rw [HSL.out] at hr')
          | (go_at_call 100; refine (HC1.out _ _ hr').mono ?_; rintro e w' ⟨rfl, rfl⟩)
          | (apply wpList_buildW [x]; exact of_decide_eq_true rfl; rfl; rfl; rfl; intro gb wb hgb1 hgb2 hob hbb)
          | (at_builtin; apply wpList_appendW (own_next hown hbb) (RdW.of_own hob); rfl; rfl; rfl; rfl; rw [HTL.out]; simp; omega; omega; intro v2 w2 hown' hgr'))
        go_roundw
        case rel => exact ⟨k + 1, by omega, by go_num, by rw [HS.out]; exact hown', hbk.trans ((hbb.mono hbs).trans (below_own hgr' (own_next hown hbb) (Nat.le_refl _) (Nat.le_trans hbs hbb.size)))⟩
        case measure => simp [intOf]; omega
      · obtain ⟨y, hy⟩ : ∃ y, y = ws.getD (k - 1) 0 := ⟨_, rfl⟩
        obtain ⟨z, hz⟩ : ∃ z, z = ws.getD (k - 8) 0 := ⟨_, rfl⟩
        have hxe : x = z ^^^ gN k y := by rw [hx, hz, hy, HW.out, wsL_high key H32.out hb k (by omega) hlt]
        have hy32 : y < 4294967296 := by rw [hy, HW.out]; exact wsL_lt key H32.out hb _
        have hz32 : z < 4294967296 := by rw [hz, HW.out]; exact wsL_lt key H32.out hb _
        have ey : (((ws.take k).getD (k - 1) 0 : Nat) : Int) = y := by rw [hy]; simp [show k - 1 < k by omega]
        have ez : (((ws.take k).getD (k - 8) 0 : Nat) : Int) = z := by rw [hz]; simp [show k - 8 < k by omega]
        have HEY := Lib.hid ey
        have HEZ := Lib.hid ez
        obtain ⟨g, hg⟩ : ∃ g, g = gN k y := ⟨_, rfl⟩
        rw [← hg] at hxe
        clear hs hx hy hz ey ez
        rcases (show k % 8 = 0 ∨ k % 8 = 4 ∨ (k % 8 ≠ 0 ∧ k % 8 ≠ 4) from by omega) with h0 | h4 | hn
        · have hg' : g = wordN (rotN y) ^^^ (pw (k / 8 - 1) * 16777216) := by rw [hg]; unfold gN; rw [if_pos h0]
          have hm0 : ((k : Int) % 8 == 0) = true := by simp; omega
          have hro : rotN y < 4294967296 := by unfold rotN; omega
          have hwo : wordN (rotN y) < 4294967296 := by
            have := sb_lt (rotN y / 16777216); have := sb_lt (rotN y / 65536 % 256); have := sb_lt (rotN y / 256 % 256); have := sb_lt (rotN y % 256)
            unfold wordN; omega
          have hpw : pw (k / 8 - 1) ≤ 64 := pw_le _ 6 (by omega)
          obtain ⟨r, hr⟩ : ∃ r, r = rotN y := ⟨_, rfl⟩
          obtain ⟨s, hsw⟩ : ∃ s, s = wordN r := ⟨_, rfl⟩
          obtain ⟨q, hq⟩ : ∃ q, q = pw (k / 8 - 1) := ⟨_, rfl⟩
          rw [← hr] at hro hwo hg'
          rw [← hsw] at hwo hg'
          rw [← hq] at hpw hg'
          have C1 : ∀ w, Calls Try.prog 101 #[.int .u32 y, .int .i64 8] w (RetP (.int .u32 r) w) := fun w => hr ▸ rotl8_calls y rfl hy32 w
          have C2 : ∀ w, Calls Try.prog 33 #[.int .u32 r] w (RetB (.int .u32 s) w) := fun w => hsw ▸ word_calls r rfl hro w
          have C3 : ∀ w, Calls Try.prog 102 #[.int .u8 2, .int .i64 ((k : Int) / 8 - 1)] w (RetP (.int .u8 q) w) := fun w => hq ▸ fpow2_calls (k / 8 - 1) rfl (by omega) (by omega) w
          have hx1 := u32_xor_nat s (q * 16777216) hwo (by omega)
          rw [Int.natCast_mul, show ((16777216 : Nat) : Int) = 16777216 from rfl, ← hg'] at hx1
          have hg32 : g < 4294967296 := by rw [hg']; exact Nat.xor_lt_two_pow (n := 32) hwo (by omega)
          have hx2 := u32_xor_nat z g hz32 hg32
          rw [← hxe] at hx2
          have HC1 := Lib.hid C1
          have HC2 := Lib.hid C2
          have HC3 := Lib.hid C3
          clear hg hg' hxe hr hsw hq C1 C2 C3
          go_wp2_with (first
            | (apply wpList_indexW (RdW.of_own hown) (k - 1); rw [HTL.out]; omega; rfl; rfl; rfl; rfl; omega; rw [HEY.out]; intro p hp hcell)
            | (apply wpList_indexW (RdW.of_own hown) (k - 8); rw [HTL.out]; omega; rfl; rfl; rfl; rfl; omega; rw [HEZ.out]; intro p hp hcell)
            | (go_at_call 101; refine (HC1.out _).mono ?_; rintro e w' ⟨rfl, rfl⟩)
            | (go_at_call 33; refine (HC2.out _).mono ?_; rintro e w' ⟨rfl, hb1⟩; replace hown := own_next hown hb1; replace hbk := hbk.trans (hb1.mono hbs); replace hbs := hbk.size)
            | (go_at_call 102; refine (HC3.out _).mono ?_; rintro e w' ⟨rfl, rfl⟩)
            | (apply wpList_buildW [x]; exact of_decide_eq_true rfl; rfl; rfl; rfl; intro gb wb hgb1 hgb2 hob hbb)
            | (at_builtin; apply wpList_appendW (own_next hown hbb) (RdW.of_own hob); rfl; rfl; rfl; rfl; rw [HTL.out]; simp; omega; omega; intro v2 w2 hown' hgr'))
          go_roundw
          case rel => exact ⟨k + 1, by omega, by go_num, by rw [HS.out]; exact hown', hbk.trans ((hbb.mono hbs).trans (below_own hgr' (own_next hown hbb) (Nat.le_refl _) (Nat.le_trans hbs hbb.size)))⟩
          case measure => simp [intOf]; omega
        · have hg' : g = wordN y := by rw [hg]; unfold gN; rw [if_neg (by omega), if_pos h4]
          have hm0 : ((k : Int) % 8 == 0) = false := by simp; omega
          have hm4 : ((k : Int) % 8 == 4) = true := by simp; omega
          have hg32 : g < 4294967296 := by
            have := sb_lt (y / 16777216); have := sb_lt (y / 65536 % 256); have := sb_lt (y / 256 % 256); have := sb_lt (y % 256)
            rw [hg']; unfold wordN; omega
          have C2 : ∀ w, Calls Try.prog 33 #[.int .u32 y] w (RetB (.int .u32 g) w) := fun w => hg' ▸ word_calls y rfl hy32 w
          have hx2 := u32_xor_nat z g hz32 hg32
          rw [← hxe] at hx2
          have HC2 := Lib.hid C2
          clear hg hg' hxe C2
          go_wp2_with (first
            | (apply wpList_indexW (RdW.of_own hown) (k - 1); rw [HTL.out]; omega; rfl; rfl; rfl; rfl; omega; rw [HEY.out]; intro p hp hcell)
            | (apply wpList_indexW (RdW.of_own hown) (k - 8); rw [HTL.out]; omega; rfl; rfl; rfl; rfl; omega; rw [HEZ.out]; intro p hp hcell)
            | (go_at_call 33; refine (HC2.out _).mono ?_; rintro e w' ⟨rfl, hb1⟩; replace hown := own_next hown hb1; replace hbk := hbk.trans (hb1.mono hbs); replace hbs := hbk.size)
            | (apply wpList_buildW [x]; exact of_decide_eq_true rfl; rfl; rfl; rfl; intro gb wb hgb1 hgb2 hob hbb)
            | (at_builtin; apply wpList_appendW (own_next hown hbb) (RdW.of_own hob); rfl; rfl; rfl; rfl; rw [HTL.out]; simp; omega; omega; intro v2 w2 hown' hgr'))
          go_roundw
          case rel => exact ⟨k + 1, by omega, by go_num, by rw [HS.out]; exact hown', hbk.trans ((hbb.mono hbs).trans (below_own hgr' (own_next hown hbb) (Nat.le_refl _) (Nat.le_trans hbs hbb.size)))⟩
          case measure => simp [intOf]; omega
        · have hg' : g = y := by rw [hg]; unfold gN; rw [if_neg hn.1, if_neg hn.2]
          have hm0 : ((k : Int) % 8 == 0) = false := by simp; omega
          have hm4 : ((k : Int) % 8 == 4) = false := by simp; omega
          have hx2 := u32_xor_nat z y hz32 hy32
          rw [hg'] at hxe
          rw [← hxe] at hx2
          clear hg hg' hxe hn
          go_wp2_with (first
            | (apply wpList_indexW (RdW.of_own hown) (k - 1); rw [HTL.out]; omega; rfl; rfl; rfl; rfl; omega; rw [HEY.out]; intro p hp hcell)
            | (apply wpList_indexW (RdW.of_own hown) (k - 8); rw [HTL.out]; omega; rfl; rfl; rfl; rfl; omega; rw [HEZ.out]; intro p hp hcell)
            | (apply wpList_buildW [x]; exact of_decide_eq_true rfl; rfl; rfl; rfl; intro gb wb hgb1 hgb2 hob hbb)
            | (at_builtin; apply wpList_appendW (own_next hown hbb) (RdW.of_own hob); rfl; rfl; rfl; rfl; rw [HTL.out]; simp; omega; omega; intro v2 w2 hown' hgr'))
          go_roundw
          case rel => exact ⟨k + 1, by omega, by go_num, by rw [HS.out]; exact hown', hbk.trans ((hbb.mono hbs).trans (below_own hgr' (own_next hown hbb) (Nat.le_refl _) (Nat.le_trans hbs hbb.size)))⟩
          case measure => simp [intOf]; omega
    · go_wp2_with fail
      go_ret2
      obtain rfl : k = 60 := by omega
      rw [List.take_of_length_le (by rw [HWL.out]; exact Nat.le_refl _)] at hown
      exact ⟨_, rfl, hown, hbk⟩
end Go.Proofs.Ytfinekmegiengaa
