/- The walks of layers 5 and 7. -/
import Derived.Test.YtfinekmegiengaaMemA
import Derived.Test.YtfinekmegiengaaPlnB
import Derived.Test.YtfinekmegiengaaWA
import Derived.Outline
import Derived.Deep.RegionHeld3
import Derived.StillTailTactics
import Derived.Deep.CutRange
/- The walks of layers 1, 5 and 7: the field's functions, numbers of bytes, a word turned. -/
namespace Go.Proofs.Ytfinekmegiengaa
open Go.RowKit Nep
set_option maxRecDepth 100000
set_option linter.unusedVariables false

theorem times_calls (a : Nat) {A : Int} (hA : A = a) (ha : a < 256) (w : World) : Calls Try.prog 169 #[.int .u8 A] w (RetP (.int .u8 (xt a)) w) := by
  subst hA
  by_cases h : 128 ≤ a
  · have hx := u8_xor_nat (a * 2 % 256) 27 (by omega) (by omega)
    have e : xt a = (a * 2 % 256) ^^^ 27 := if_pos h
    have e1 : ((a * 2 % 256 : Nat) : Int) = (a : Int) * 2 % 256 := by omega
    rw [e1, show ((27 : Nat) : Int) = 27 from rfl, ← e] at hx
    clear e e1
    go_enter Try.func169, Try.ntmps169
    go_wp2
    go_ret
    exact RetP.mk rfl
  · have e : xt a = a * 2 % 256 := if_neg h
    have E := Lib.hid e
    clear e
    go_enter Try.func169, Try.ntmps169
    go_wp2
    go_ret
    exact RetP.mk (val_int (by rw [E.out]; omega))

theorem fmul_calls (a b : Nat) {A B : Int} (hA : A = a) (hB : B = b) (ha : a < 256) (hb : b < 256) (w : World) : Calls Try.prog 147 #[.int .u8 A, .int .u8 B] w (RetP (.int .u8 (fmul a b)) w) := by
  subst hA hB
  obtain ⟨r, hr⟩ : ∃ r, r = fmul a b := ⟨_, rfl⟩
  have HR := Lib.hid hr
  rw [← hr]
  clear hr
  go_enter Try.func147, Try.ntmps147
  go_wp2
  go_loop [0, 1, 5] (fun x y o => ∃ n a1 b1 o1 : Nat, b1 < 2 ^ n ∧ n ≤ 8 ∧ a1 < 256 ∧ b1 < 256 ∧ o1 < 256 ∧ x = .int .u8 a1 ∧ y = .int .u8 b1 ∧ o = .int .u8 o1 ∧ Hid (r = fmulL n a1 b1 o1)) (fun _ y _ => (intOf y).toNat)
  case atStart => exact ⟨8, a, b, 0, hb, by omega, ha, hb, by omega, rfl, rfl, rfl, HR.out⟩
  case round =>
    obtain ⟨n, a1, b1, o1, h1, h2, h3, h4, h5, rfl, rfl, rfl, hh⟩ := hrel
    by_cases hz : b1 = 0
    · subst hz
      have hE := hh.out
      rw [fmulL_zero] at hE
      have HE := Lib.hid hE
      clear hE
      go_wp2
      go_ret
      exact RetP.mk (val_int (by rw [HE.out]))
    · obtain ⟨m, rfl⟩ : ∃ m, n = m + 1 := ⟨n - 1, by
        cases n with
        | zero => simp at h1; omega
        | succ n => rfl⟩
      have hE := hh.out
      rw [fmulL_step _ _ _ _ hz] at hE
      have hb2 : b1 / 2 < 2 ^ m := by rw [Nat.pow_succ] at h1; omega
      have hx := xt_lt a1
      have hm := u8_and_nat b1 1 h4 (by omega)
      rw [nat_mask1, show ((1 : Nat) : Int) = 1 from rfl] at hm
      have hnz : ((b1 : Int) != 0) = true := by simp; omega
      have hsh : ((b1 : Int) / 2) = ((b1 / 2 : Nat) : Int) := by omega
      by_cases hodd : b1 % 2 = 1
      · rw [if_pos hodd] at hE
        rw [hodd] at hm
        have hxo := u8_xor_nat o1 a1 h5 h3
        have ho := Nat.xor_lt_two_pow (n := 8) h5 h3
        have HE := Lib.hid hE
        clear hE hsh
        go_wp2_with (first | (go_at_call 169; refine (times_calls a1 rfl h3 _).mono ?_; rintro e w' ⟨rfl, rfl⟩))
        go_round
        case rel => exact ⟨m, xt a1, b1 / 2, o1 ^^^ a1, hb2, by omega, hx, by omega, ho, rfl, by go_num, rfl, HE.out⟩
        case measure => simp [intOf]; omega
      · rw [if_neg hodd] at hE
        rw [show b1 % 2 = 0 from by omega] at hm
        have HE := Lib.hid hE
        clear hE hsh
        go_wp2_with (first | (go_at_call 169; refine (times_calls a1 rfl h3 _).mono ?_; rintro e w' ⟨rfl, rfl⟩))
        go_round
        case rel => exact ⟨m, xt a1, b1 / 2, o1, hb2, by omega, hx, by omega, h5, rfl, by go_num, rfl, HE.out⟩
        case measure => simp [intOf]; omega

theorem fpow_calls (a n : Nat) {A N : Int} (hA : A = a) (hN : N = n) (ha : a < 256) (h0 : 0 < n) (hn : n < 256) (w : World) : Calls Try.prog 102 #[.int .u8 A, .int .i64 N] w (RetP (.int .u8 (fpow a n)) w) := by
  subst hA hN
  obtain ⟨r, hr⟩ : ∃ r, r = fpow a n := ⟨_, rfl⟩
  have HR := Lib.hid hr
  rw [← hr]
  clear hr
  have g1 : decide (n = 0) = false := by simp; omega
  have g2 : decide ((255 : Int) < (n : Int)) = false := by simp; omega
  go_enter Try.func102, Try.ntmps102
  go_wp2
  go_loop [0, 1, 5] (fun x y o => ∃ k a1 n1 o1 : Nat, n1 < 2 ^ k ∧ n1 < 256 ∧ a1 < 256 ∧ o1 < 256 ∧ x = .int .u8 a1 ∧ y = .int .i64 n1 ∧ o = .int .u8 o1 ∧ Hid (r = fpowL k a1 n1 o1)) (fun _ y _ => (intOf y).toNat)
  case atStart => exact ⟨8, a, n, 1, hn, hn, ha, by omega, rfl, rfl, rfl, HR.out⟩
  case round =>
    obtain ⟨k, a1, n1, o1, h1, h2, h3, h5, rfl, rfl, rfl, hh⟩ := hrel
    by_cases hz : n1 = 0
    · subst hz
      have hE := hh.out
      rw [fpowL_zero] at hE
      have HE := Lib.hid hE
      clear hE
      go_wp2
      go_ret
      exact RetP.mk (val_int (by rw [HE.out]))
    · obtain ⟨m, rfl⟩ : ∃ m, k = m + 1 := ⟨k - 1, by
        cases k with
        | zero => simp at h1; omega
        | succ n => rfl⟩
      have hE := hh.out
      rw [fpowL_step _ _ _ _ hz] at hE
      have hb2 : n1 / 2 < 2 ^ m := by rw [Nat.pow_succ] at h1; omega
      have hsq := fmul_lt a1 a1 h3
      have hpos : 0 < n1 := by omega
      have hm := (bits_nat .i64 16 (by decide) (fun n h0 h1 => by rw [IntKind.wrap_i64]; omega) n1 1 (by omega) (by omega)).1
      rw [nat_mask1, show ((1 : Nat) : Int) = 1 from rfl] at hm
      have C2 : ∀ w, Calls Try.prog 147 #[.int .u8 a1, .int .u8 a1] w (RetP (.int .u8 (fmul a1 a1)) w) := fun w => fmul_calls a1 a1 rfl rfl h3 h3 w
      have C1 : ∀ w, Calls Try.prog 147 #[.int .u8 o1, .int .u8 a1] w (RetP (.int .u8 (fmul o1 a1)) w) := fun w => fmul_calls o1 a1 rfl rfl h5 h3 w
      by_cases hodd : n1 % 2 = 1
      · rw [if_pos hodd] at hE
        rw [hodd] at hm
        have ho := fmul_lt o1 a1 h5
        have HE := Lib.hid hE
        clear hE
        by_cases hoa : o1 = a1
        · subst hoa
          go_wp2_with (first | (go_at_call 147; (with_reducible refine (C1 _).mono ?_); rintro e w' ⟨rfl, rfl⟩))
          go_round
          case rel => exact ⟨m, fmul o1 o1, n1 / 2, fmul o1 o1, hb2, by omega, hsq, ho, rfl, by go_num, rfl, HE.out⟩
          case measure => simp [intOf]; omega
        · go_wp2_with (first | (go_at_call 147; first | (with_reducible refine (C1 _).mono ?_) | (with_reducible refine (C2 _).mono ?_)); (rintro e w' ⟨rfl, rfl⟩))
          go_round
          case rel => exact ⟨m, fmul a1 a1, n1 / 2, fmul o1 a1, hb2, by omega, hsq, ho, rfl, by go_num, rfl, HE.out⟩
          case measure => simp [intOf]; omega
      · rw [if_neg hodd] at hE
        rw [show n1 % 2 = 0 from by omega] at hm
        have HE := Lib.hid hE
        clear hE
        go_wp2_with (first | (go_at_call 147; (with_reducible refine (C2 _).mono ?_); rintro e w' ⟨rfl, rfl⟩))
        go_round
        case rel => exact ⟨m, fmul a1 a1, n1 / 2, o1, hb2, by omega, hsq, h5, rfl, by go_num, rfl, HE.out⟩
        case measure => simp [intOf]; omega

theorem fpow_zero (a : Nat) {A N : Int} (hA : A = a) (hN : N = 0) (w : World) : Calls Try.prog 102 #[.int .u8 A, .int .i64 N] w (RetP (.int .u8 1) w) := by
  subst hA hN
  go_enter Try.func102, Try.ntmps102
  go_wp2
  go_ret
  exact RetP.mk rfl
/-- a power of two, small -/
theorem fpow2_calls (n : Nat) {A N : Int} (hA : A = 2) (hN : N = n) (hn : n < 7) (w : World) : Calls Try.prog 102 #[.int .u8 A, .int .i64 N] w (RetP (.int .u8 (pw n)) w) := by
  by_cases h : n = 0
  · subst h
    exact fpow_zero 2 hA hN w
  · have := fpow_calls 2 n hA hN (by omega) (by omega) (by omega) w
    rwa [fpow_two n hn] at this

theorem rpow_calls (n : Nat) {A N : Int} (hA : A = 2) (hN : N = n) (hn : n < 7) (w : World) : Calls Try.prog 104 #[.int .u8 A, .int .i64 N] w (RetP (.int .u8 (pw n)) w) := by
  subst hA hN
  have hp := rpow_two n hn
  have HP := Lib.hid hp
  clear hp
  have hlt : ∀ k, k < 7 → rpow 2 k < 256 := by decide +kernel
  go_enter Try.func104, Try.ntmps104
  go_wp2
  go_loop [5, 6] (fun o i => ∃ k : Nat, k ≤ n ∧ i = .int .i64 k ∧ o = .int .u8 (rpow 2 k)) (fun _ i => n - (intOf i).toNat)
  case atStart => exact ⟨0, by omega, rfl, rfl⟩
  case round =>
    obtain ⟨k, hk, rfl, rfl⟩ := hrel
    have hl := hlt k (by omega)
    clear hlt
    by_cases hkn : k < n
    · have C : ∀ w, Calls Try.prog 146 #[.int .u8 (rpow 2 k), .int .u8 2] w (RetP (.int .u8 (rpow 2 (k + 1))) w) := fun w => mul05 (rpow 2 k) 2 hl (by omega) w
      go_wp2_with (first | (go_at_call 146; (with_reducible refine (C _).mono ?_); rintro e w' ⟨rfl, rfl⟩))
      go_round
      case rel => exact ⟨k + 1, by omega, by go_num, rfl⟩
      case measure => simp [intOf]; omega
    · go_wp2_with fail
      go_ret
      obtain rfl : k = n := by omega
      exact RetP.mk (by rw [← HP.out]; rfl)

theorem rotl8_calls (x : Nat) {X : Int} (hX : X = x) (hx : x < 4294967296) (w : World) : Calls Try.prog 101 #[.int .u32 X, .int .i64 8] w (RetP (.int .u32 ((x % 16777216 * 256 + x / 16777216 : Nat) : Int)) w) := by
  subst hX
  obtain ⟨r, hr⟩ : ∃ r, r = x % 16777216 * 256 + x / 16777216 := ⟨_, rfl⟩
  have hj := u32_join (x % 16777216 * 256) (x / 16777216) 8 (X := (x : Int) * 256 % 4294967296) (Y := (x : Int) / 16777216) (by omega) (by omega) (by omega) (by omega) (by omega) (by omega)
  rw [← hr] at hj ⊢
  clear hr
  have hk : bits .and .u64 8 31 = 8 := by decide
  go_enter Try.func101, Try.ntmps101
  go_wp2
  go_ret
  exact RetP.mk rfl
end Go.Proofs.Ytfinekmegiengaa
/- The walk of layer 7: a key's words. -/
namespace Go.Proofs.Ytfinekmegiengaa
open Go.RowKit Nep
set_option maxRecDepth 100000
set_option linter.unusedVariables false
set_option maxHeartbeats 1000000

/-- it returns words of its own, and OK -/
def RetWE (ys : List Nat) (w : World) (e : Ending) (w' : World) : Prop :=
  ∃ v', e = .returned (.tuple #[v', .int .i64 0]) ∧ w'.ownsRow w.heap.size 25 1 v' ys.length (wv ys) ∧ Below w.heap.size w w'

theorem expand_short (v : Value) (key : List Nat) (w : World) (hr : RdB w.heap.size w v key) (h : key.length ≠ 32) : Calls Try.prog 36 #[v] w (RetE 2 w) := by
  have hne : ((key.length : Int) != 32) = true := by simp; omega
  go_enter Try.func36, Try.ntmps36
  go_wp2_with (first | (refine wpList_lenB hr rfl rfl rfl ?_))
  go_ret2
  exact ⟨rfl, Below.refl _ _⟩

theorem expand_calls (v : Value) (key : List Nat) (w : World) (hb : Bytes key) (hr : RdB w.heap.size w v key) (h32 : key.length = 32) : Calls Try.prog 36 #[v] w (RetWE (wsL key) w) := by
  have hng : ((key.length : Int) != 32) = false := by rw [h32]; rfl
  obtain ⟨ws, hws⟩ : ∃ ws, ws = wsL key := ⟨_, rfl⟩
  have hwl : ws.length = 60 := by rw [hws, wsL_length]
  have HW := Lib.hid hws
  have HWL := Lib.hid hwl
  have H32 := Lib.hid h32
  rw [← hws]
  clear hws hwl h32
  have hr0 := hr
  go_enter Try.func36, Try.ntmps36
  go_wp2_with (first | (refine wpList_lenB hr rfl rfl rfl ?_))
  clear hr
  go_loopw [4, 10] (fun s i wr => ∃ k : Nat, k ≤ 60 ∧ i = .int .i64 k ∧ wr.ownsRow w.heap.size 25 1 s (ws.take k).length (wv (ws.take k)) ∧ Below w.heap.size w wr) (fun _ i _ => 60 - (intOf i).toNat)
  case atStart => exact ⟨0, by omega, rfl, World.ownsRow_nil _ _ _ _, Below.refl _ _⟩
  case round =>
    obtain ⟨k, hk, rfl, hown, hbk⟩ := hrel
    have hrk := hr0.mono hbk
    have hbs := hbk.size
    have htl : (ws.take k).length = k := by rw [List.length_take, HWL.out]; omega
    have HTL := Lib.hid htl
    clear htl
    by_cases hlt : k < 60
    · obtain ⟨x, hx⟩ : ∃ x, x = ws.getD k 0 := ⟨_, rfl⟩
      have hs : ws.take (k + 1) = ws.take k ++ [x] := by rw [take_succ_getD _ _ (by rw [HWL.out]; exact hlt), hx]
      have HS := Lib.hid hs
      have hx32 : x < 4294967296 := by rw [hx, HW.out]; exact wsL_lt key H32.out hb k
      by_cases h8 : k < 8
      · have hxe : x = num ((key.drop (4 * k)).take 4) := by rw [hx, HW.out, wsL_low key k h8]
        have hsl : ((key.drop (4 * k)).take (4 * k + 4 - 4 * k)) = (key.drop (4 * k)).take 4 := by rw [show 4 * k + 4 - 4 * k = 4 from by omega]
        have HSL := Lib.hid hsl
        have hlen4 : ((key.drop (4 * k)).take 4).length ≤ 8 := by rw [List.length_take]; omega
        have C1 : ∀ v' w', RdB w.heap.size w' v' ((key.drop (4 * k)).take 4) → Calls Try.prog 100 #[v'] w' (RetP (.int .u64 x) w') := fun v' w' h => hxe ▸ num_calls v' _ w' ((hb.drop _).take _) h hlen4
        have HC1 := Lib.hid C1
        have hkl : 4 * k + 4 ≤ key.length := by rw [H32.out]; omega
        clear hs hx hxe hsl C1 hlen4
        go_wp2_with (first
          | (apply wpList_cutB hrk (4 * k) (4 * k + 4); rfl; rfl; rfl; exact .inr ⟨_, _, rfl, by omega⟩; exact .inr ⟨_, _, rfl, by omega⟩; exact .inr ⟨_, _, 4 * k + 4, rfl, by omega, by omega, by omega⟩; omega; omega; intro v' hr'; rw [HSL.out] at hr')
          | (go_at_call 100; refine (HC1.out _ _ hr').mono ?_; rintro e w' ⟨rfl, rfl⟩)
          | (apply wpList_buildW [x]; exact of_decide_eq_true rfl; rfl; rfl; rfl; intro gb wb hgb1 hgb2 hob hbb)
          | (at_builtin; apply wpList_appendW (own_next hown hbb) (RdW.of_own hob); rfl; rfl; rfl; rfl; rw [HTL.out]; simp; omega; omega; intro v2 w2 hown' hgr'))
        go_roundw
        case rel => exact ⟨k + 1, by omega, by go_num, by rw [HS.out]; exact hown', hbk.trans ((hbb.mono hbs).trans (below_own hgr' (own_next hown hbb) (Nat.le_refl _) (Nat.le_trans hbs hbb.size)))⟩
        case measure => simp [intOf]; omega
      · obtain ⟨y, hy⟩ : ∃ y, y = ws.getD (k - 1) 0 := ⟨_, rfl⟩
        obtain ⟨z, hz⟩ : ∃ z, z = ws.getD (k - 8) 0 := ⟨_, rfl⟩
        have hxe : x = z ^^^ gN k y := by rw [hx, hz, hy, HW.out, wsL_high key H32.out hb k (by omega) hlt]
        have hy32 : y < 4294967296 := by rw [hy, HW.out]; exact wsL_lt key H32.out hb _
        have hz32 : z < 4294967296 := by rw [hz, HW.out]; exact wsL_lt key H32.out hb _
        have ey : (((ws.take k).getD (k - 1) 0 : Nat) : Int) = y := by rw [hy]; simp [show k - 1 < k by omega]
        have ez : (((ws.take k).getD (k - 8) 0 : Nat) : Int) = z := by rw [hz]; simp [show k - 8 < k by omega]
        have HEY := Lib.hid ey
        have HEZ := Lib.hid ez
        obtain ⟨g, hg⟩ : ∃ g, g = gN k y := ⟨_, rfl⟩
        rw [← hg] at hxe
        clear hs hx hy hz ey ez
        rcases (show k % 8 = 0 ∨ k % 8 = 4 ∨ (k % 8 ≠ 0 ∧ k % 8 ≠ 4) from by omega) with h0 | h4 | hn
        · have hg' : g = wordN (rotN y) ^^^ (pw (k / 8 - 1) * 16777216) := by rw [hg]; unfold gN; rw [if_pos h0]
          have hm0 : ((k : Int) % 8 == 0) = true := by simp; omega
          have hro : rotN y < 4294967296 := by unfold rotN; omega
          have hwo : wordN (rotN y) < 4294967296 := by
            have := sb_lt (rotN y / 16777216); have := sb_lt (rotN y / 65536 % 256); have := sb_lt (rotN y / 256 % 256); have := sb_lt (rotN y % 256)
            unfold wordN; omega
          have hpw : pw (k / 8 - 1) ≤ 64 := pw_le _ 6 (by omega)
          obtain ⟨r, hr⟩ : ∃ r, r = rotN y := ⟨_, rfl⟩
          obtain ⟨s, hsw⟩ : ∃ s, s = wordN r := ⟨_, rfl⟩
          obtain ⟨q, hq⟩ : ∃ q, q = pw (k / 8 - 1) := ⟨_, rfl⟩
          rw [← hr] at hro hwo hg'
          rw [← hsw] at hwo hg'
          rw [← hq] at hpw hg'
          have C1 : ∀ w, Calls Try.prog 101 #[.int .u32 y, .int .i64 8] w (RetP (.int .u32 r) w) := fun w => hr ▸ rotl8_calls y rfl hy32 w
          have C2 : ∀ w, Calls Try.prog 33 #[.int .u32 r] w (RetB (.int .u32 s) w) := fun w => hsw ▸ word_calls r rfl hro w
          have C3 : ∀ w, Calls Try.prog 102 #[.int .u8 2, .int .i64 ((k : Int) / 8 - 1)] w (RetP (.int .u8 q) w) := fun w => hq ▸ fpow2_calls (k / 8 - 1) rfl (by omega) (by omega) w
          have hx1 := u32_xor_nat s (q * 16777216) hwo (by omega)
          rw [Int.natCast_mul, show ((16777216 : Nat) : Int) = 16777216 from rfl, ← hg'] at hx1
          have hg32 : g < 4294967296 := by rw [hg']; exact Nat.xor_lt_two_pow (n := 32) hwo (by omega)
          have hx2 := u32_xor_nat z g hz32 hg32
          rw [← hxe] at hx2
          have HC1 := Lib.hid C1
          have HC2 := Lib.hid C2
          have HC3 := Lib.hid C3
          clear hg hg' hxe hr hsw hq C1 C2 C3
          go_wp2_with (first
            | (apply wpList_indexW (RdW.of_own hown) (k - 1); rw [HTL.out]; omega; rfl; rfl; rfl; rfl; omega; rw [HEY.out]; intro p hp hcell)
            | (apply wpList_indexW (RdW.of_own hown) (k - 8); rw [HTL.out]; omega; rfl; rfl; rfl; rfl; omega; rw [HEZ.out]; intro p hp hcell)
            | (go_at_call 101; refine (HC1.out _).mono ?_; rintro e w' ⟨rfl, rfl⟩)
            | (go_at_call 33; refine (HC2.out _).mono ?_; rintro e w' ⟨rfl, hb1⟩; replace hown := own_next hown hb1; replace hbk := hbk.trans (hb1.mono hbs); replace hbs := hbk.size)
            | (go_at_call 102; refine (HC3.out _).mono ?_; rintro e w' ⟨rfl, rfl⟩)
            | (apply wpList_buildW [x]; exact of_decide_eq_true rfl; rfl; rfl; rfl; intro gb wb hgb1 hgb2 hob hbb)
            | (at_builtin; apply wpList_appendW (own_next hown hbb) (RdW.of_own hob); rfl; rfl; rfl; rfl; rw [HTL.out]; simp; omega; omega; intro v2 w2 hown' hgr'))
          go_roundw
          case rel => exact ⟨k + 1, by omega, by go_num, by rw [HS.out]; exact hown', hbk.trans ((hbb.mono hbs).trans (below_own hgr' (own_next hown hbb) (Nat.le_refl _) (Nat.le_trans hbs hbb.size)))⟩
          case measure => simp [intOf]; omega
        · have hg' : g = wordN y := by rw [hg]; unfold gN; rw [if_neg (by omega), if_pos h4]
          have hm0 : ((k : Int) % 8 == 0) = false := by simp; omega
          have hm4 : ((k : Int) % 8 == 4) = true := by simp; omega
          have hg32 : g < 4294967296 := by
            have := sb_lt (y / 16777216); have := sb_lt (y / 65536 % 256); have := sb_lt (y / 256 % 256); have := sb_lt (y % 256)
            rw [hg']; unfold wordN; omega
          have C2 : ∀ w, Calls Try.prog 33 #[.int .u32 y] w (RetB (.int .u32 g) w) := fun w => hg' ▸ word_calls y rfl hy32 w
          have hx2 := u32_xor_nat z g hz32 hg32
          rw [← hxe] at hx2
          have HC2 := Lib.hid C2
          clear hg hg' hxe C2
          go_wp2_with (first
            | (apply wpList_indexW (RdW.of_own hown) (k - 1); rw [HTL.out]; omega; rfl; rfl; rfl; rfl; omega; rw [HEY.out]; intro p hp hcell)
            | (apply wpList_indexW (RdW.of_own hown) (k - 8); rw [HTL.out]; omega; rfl; rfl; rfl; rfl; omega; rw [HEZ.out]; intro p hp hcell)
            | (go_at_call 33; refine (HC2.out _).mono ?_; rintro e w' ⟨rfl, hb1⟩; replace hown := own_next hown hb1; replace hbk := hbk.trans (hb1.mono hbs); replace hbs := hbk.size)
            | (apply wpList_buildW [x]; exact of_decide_eq_true rfl; rfl; rfl; rfl; intro gb wb hgb1 hgb2 hob hbb)
            | (at_builtin; apply wpList_appendW (own_next hown hbb) (RdW.of_own hob); rfl; rfl; rfl; rfl; rw [HTL.out]; simp; omega; omega; intro v2 w2 hown' hgr'))
          go_roundw
          case rel => exact ⟨k + 1, by omega, by go_num, by rw [HS.out]; exact hown', hbk.trans ((hbb.mono hbs).trans (below_own hgr' (own_next hown hbb) (Nat.le_refl _) (Nat.le_trans hbs hbb.size)))⟩
          case measure => simp [intOf]; omega
        · have hg' : g = y := by rw [hg]; unfold gN; rw [if_neg hn.1, if_neg hn.2]
          have hm0 : ((k : Int) % 8 == 0) = false := by simp; omega
          have hm4 : ((k : Int) % 8 == 4) = false := by simp; omega
          have hx2 := u32_xor_nat z y hz32 hy32
          rw [hg'] at hxe
          rw [← hxe] at hx2
          clear hg hg' hxe hn
          go_wp2_with (first
            | (apply wpList_indexW (RdW.of_own hown) (k - 1); rw [HTL.out]; omega; rfl; rfl; rfl; rfl; omega; rw [HEY.out]; intro p hp hcell)
            | (apply wpList_indexW (RdW.of_own hown) (k - 8); rw [HTL.out]; omega; rfl; rfl; rfl; rfl; omega; rw [HEZ.out]; intro p hp hcell)
            | (apply wpList_buildW [x]; exact of_decide_eq_true rfl; rfl; rfl; rfl; intro gb wb hgb1 hgb2 hob hbb)
            | (at_builtin; apply wpList_appendW (own_next hown hbb) (RdW.of_own hob); rfl; rfl; rfl; rfl; rw [HTL.out]; simp; omega; omega; intro v2 w2 hown' hgr'))
          go_roundw
          case rel => exact ⟨k + 1, by omega, by go_num, by rw [HS.out]; exact hown', hbk.trans ((hbb.mono hbs).trans (below_own hgr' (own_next hown hbb) (Nat.le_refl _) (Nat.le_trans hbs hbb.size)))⟩
          case measure => simp [intOf]; omega
    · go_wp2_with fail
      go_ret2
      obtain rfl : k = 60 := by omega
      rw [List.take_of_length_le (by rw [HWL.out]; exact Nat.le_refl _)] at hown
      exact ⟨_, rfl, hown, hbk⟩
end Go.Proofs.Ytfinekmegiengaa
/- The walk of layer 7: a key. -/
namespace Go.Proofs.Ytfinekmegiengaa
open Go.RowKit Nep
set_option maxRecDepth 100000
set_option linter.unusedVariables false
set_option linter.unusedSimpArgs false
set_option maxHeartbeats 1000000

/-- p points to a key, of which these are the rounds' bytes; it lies in blocks below B -/
def KeyAt (B : Nat) (w : World) (p : Value) (rk : List Nat) : Prop := ∃ kb sv, p = .pointer (some ⟨kb, 0, none⟩) ∧ kb < B ∧ w.cell? ⟨kb, 0, none⟩ = some sv ∧ RdS B 16 w sv 15 (bv rk)
theorem KeyAt.mono {B : Nat} {w w' : World} {p : Value} {rk : List Nat} (h : KeyAt B w p rk) (hb : Below B w w') : KeyAt B w' p rk := by
  obtain ⟨kb, sv, hp, hk, hc, hr⟩ := h
  exact ⟨kb, sv, hp, hk, (hb.cell (by exact hk)).trans hc, hr.mono hb⟩
theorem KeyAt.up {B B' : Nat} {w : World} {p : Value} {rk : List Nat} (h : KeyAt B w p rk) (hB : B ≤ B') : KeyAt B' w p rk := by
  obtain ⟨kb, sv, hp, hk, hc, hr⟩ := h
  exact ⟨kb, sv, hp, Nat.lt_of_lt_of_le hk hB, hc, hr.up hB⟩
/-- it returns a key, and OK -/
def RetK (rk : List Nat) (w : World) (e : Ending) (w' : World) : Prop := ∃ p, e = .returned (.tuple #[p, .int .i64 0]) ∧ KeyAt w'.heap.size w' p rk ∧ Below w.heap.size w w'
/-- it returns nil and an error -/
def RetPE (c : Int) (w : World) (e : Ending) (w' : World) : Prop := e = .returned (.tuple #[.pointer none, .int .i64 c]) ∧ Below w.heap.size w w'

theorem new_short (v : Value) (key : List Nat) (w : World) (hr : RdB w.heap.size w v key) (h : key.length ≠ 32) : Calls Try.prog 37 #[v] w (RetPE 2 w) := by
  go_enter Try.func37, Try.ntmps37
  go_wp2_with (first | (go_at_call 36; refine (expand_short _ _ _ hr h).mono ?_; rintro e w' ⟨rfl, hb⟩))
  go_ret2
  exact ⟨rfl, hb⟩

theorem info_a16 : (Try.prog.info? 49).map (fun i => (i.zero, i.size, i.bytes)) = some (some (.agg (Array.replicate 16 (.int .u8 0))), 16, 16) := by kernel_rfl
theorem size_a16 : (Try.prog.info? 49).map (·.size) = some 16 := by kernel_rfl

theorem sixteen {α : Type} {l : List α} (h : l.length = 16) : ∃ c0 c1 c2 c3 c4 c5 c6 c7 c8 c9 c10 c11 c12 c13 c14 c15, l = [c0, c1, c2, c3, c4, c5, c6, c7, c8, c9, c10, c11, c12, c13, c14, c15] := by
  match l, h with
  | [c0, c1, c2, c3, c4, c5, c6, c7, c8, c9, c10, c11, c12, c13, c14, c15], _ => exact ⟨_, _, _, _, _, _, _, _, _, _, _, _, _, _, _, _, rfl⟩

theorem new_calls (v : Value) (key : List Nat) (w : World) (hb : Bytes key) (hr : RdB w.heap.size w v key) (h32 : key.length = 32) : Calls Try.prog 37 #[v] w (RetK (flatL key) w) := by
  obtain ⟨ws, hws⟩ : ∃ ws, ws = wsL key := ⟨_, rfl⟩
  obtain ⟨rk, hrk⟩ : ∃ rk, rk = flatL key := ⟨_, rfl⟩
  have hwl : ws.length = 60 := by rw [hws, wsL_length]
  have hrl : rk.length = 240 := by rw [hrk, flatL_length key h32 hb]
  have hrb : Bytes rk := by rw [hrk]; exact flatL_bytes key h32 hb
  have hst : ∀ r j, 4 * r + j < 60 → (rk.drop (16 * r)).take (4 * (j + 1)) = (rk.drop (16 * r)).take (4 * j) ++ big (ws.getD (4 * r + j) 0) 4 := by
    intro r j hj
    rw [hrk, flat_step key h32 hb r j hj, hws, wsL_get key _ hj, big_num (expL_at key h32 hb _ hj)]
  have hwlt : ∀ i, ws.getD i 0 < 4294967296 := fun i => by rw [hws]; exact wsL_lt key h32 hb i
  have C := Lib.hid (fun w hr => hws ▸ expand_calls v key w hb hr h32)
  have HWL := Lib.hid hwl
  have HRL := Lib.hid hrl
  have HST := Lib.hid hst
  have HLT := Lib.hid hwlt
  rw [← hrk]
  clear hws hrk hwl hrl hst hwlt
  go_enter Try.func37, Try.ntmps37
  go_wp2_with (first | (go_at_call 36; refine (C.out _ hr).mono ?_; rintro e w1 ⟨vw, rfl, hw1, hb1⟩))
  have hrw1 : Row (w1.alloc (.cells #[.slice none 0 0] 53)) w1.heap.size 53 #[.slice none 0 0] := Row.new _ _ _
  have hws2 : RdW w1.heap.size (w1.alloc (.cells #[.slice none 0 0] 53)) vw ws := (RdW.of_own hw1).mono ((Below.refl _ _).alloc (Nat.le_refl _) _)
  have hb2 : Below w.heap.size w (w1.alloc (.cells #[.slice none 0 0] 53)) := hb1.alloc hb1.size _
  have hlt2 : w1.heap.size < (w1.alloc (.cells #[.slice none 0 0] 53)).heap.size := by rw [World.alloc_size']; omega
  have hkw := hb1.size
  clear hw1 hb1 hr C
  generalize w1.alloc (.cells #[.slice none 0 0] 53) = w2 at *
  generalize w1.heap.size = kb at *
  go_loopw [21] (fun i wr => ∃ (r : Nat) (sv : Value), r ≤ 15 ∧ i = .int .i64 r ∧ Row wr kb 53 #[sv] ∧ wr.ownsRow (kb + 1) 49 16 sv r (bv (rk.take (16 * r))) ∧ Below kb w2 wr ∧ kb < wr.heap.size) (fun i _ => 15 - (intOf i).toNat)
  case atStart => exact ⟨0, _, by omega, rfl, hrw1, World.ownsRow_nil _ _ _ _, Below.refl _ _, hlt2⟩
  case round =>
    obtain ⟨r, sv, hr15, rfl, hrow, hown, hbr, hkr⟩ := hrel
    clear hrw1
    have hwr := hws2.mono hbr
    by_cases hlt : r < 15
    · obtain ⟨wq, hwq⟩ : ∃ wq, wq = (ws.drop (4 * r)).take (4 * r + 4 - 4 * r) := ⟨_, rfl⟩
      have hql : wq.length = 4 := by rw [hwq, List.length_take, List.length_drop, HWL.out]; omega
      have hqg : ∀ j, j < 4 → wq.getD j 0 = ws.getD (4 * r + j) 0 := by
        intro j hj
        rw [hwq]
        simp only [List.getD_eq_getElem?_getD, List.getElem?_take, List.getElem?_drop, if_pos (show j < 4 * r + 4 - 4 * r by omega)]
      have hql1 : wq.length ≤ 4 := by omega
      have hql2 : 4 ≤ wq.length := by omega
      have hcw : 4 * r + 4 ≤ ws.length := by rw [HWL.out]; omega
      have HQ := Lib.hid hwq
      have HQG := Lib.hid hqg
      clear hwq hql hqg
      go_wp2_with (first
          | (apply wpList_cutW hwr (4 * r) (4 * r + 4); rfl; rfl; rfl; exact .inr ⟨_, _, rfl, by omega⟩; exact .inr ⟨_, _, rfl, by omega⟩; exact .inl rfl; omega; omega; intro vq hrq; rw [← HQ.out] at hrq)
          | (refine wpList_lenW hrq rfl rfl rfl ?_))
      obtain ⟨wo, rfl⟩ : ∃ wo : World, wo = wr := ⟨_, rfl⟩
      go_loopw [8, 32] (fun s i wi => ∃ j : Nat, j ≤ 4 ∧ i = .int .i64 j ∧ wi.ownsRow wo.heap.size 5 1 s ((rk.drop (16 * r)).take (4 * j)).length (bv ((rk.drop (16 * r)).take (4 * j))) ∧ Below wo.heap.size wo wi) (fun _ i _ => 4 - (intOf i).toNat)
      case atStart => exact ⟨0, by omega, rfl, World.ownsRow_nil _ _ _ _, Below.refl _ _⟩
      case round =>
        obtain ⟨j, hj4, rfl, hob, hbi⟩ := hrel
        have hrqi := hrq.mono (hbi.mono (Nat.le_of_lt hkr))
        by_cases hj : j < 4
        · obtain ⟨x, hx⟩ : ∃ x, x = wq.getD j 0 := ⟨_, rfl⟩
          have hst2 : (rk.drop (16 * r)).take (4 * (j + 1)) = (rk.drop (16 * r)).take (4 * j) ++ big x 4 := by rw [hx, HQG.out j hj]; exact HST.out r j (by omega)
          have hx32 : x < 4294967296 := by rw [hx, HQG.out j hj]; exact HLT.out _
          have hl1 : ((rk.drop (16 * r)).take (4 * j)).length ≤ 16 := by rw [List.length_take]; omega
          have hl2 : (big x 4).length ≤ 4 := by rw [big_length]; exact Nat.le_refl _
          have C1 : ∀ w, Calls Try.prog 103 #[.int .u64 (x : Int), .int .i64 4] w (RetS (big x 4) w) := fun w => big_calls x 4 rfl rfl (by omega) (by omega) w
          have HC1 := Lib.hid C1
          have HST2 := Lib.hid hst2
          have HX := Lib.hid hx
          clear hst2 C1 hx
          obtain ⟨b4, hb4⟩ : ∃ b4, b4 = big x 4 := ⟨_, rfl⟩
          rw [← hb4] at HC1 HST2 hl2
          clear hb4
          have hbs := hbi.size
          go_wp2_with (first
            | (apply wpList_indexW hrqi j; omega; rfl; rfl; rfl; rfl; omega; rw [← HX.out]; intro p hp hcell)
            | (go_at_call 103; refine (HC1.out _).mono ?_; rintro e w' ⟨v1, rfl, ho1, hb1⟩; replace hob := own_next hob hb1; replace hbi := hbi.trans (hb1.mono hbs); replace hbs := hbi.size)
            | (at_builtin; apply wpList_appendB hob (RdB.of_own ho1); rfl; rfl; rfl; rfl; omega; omega; intro v2 w2 hown' hgr'))
          go_roundw
          case rel => exact ⟨j + 1, by omega, by go_num, by rw [HST2.out]; exact hown', hbi.trans (below_own hgr' hob (Nat.le_refl _) hbs)⟩
          case measure => simp [intOf]; omega
        · obtain rfl : j = 4 := by omega
          have hrl := HRL.out
          have hlen : ((rk.drop (16 * r)).take (4 * 4)).length = 16 := by rw [List.length_take, List.length_drop]; omega
          obtain ⟨cs, hcs⟩ : ∃ cs, cs = (rk.drop (16 * r)).take (4 * 4) := ⟨_, rfl⟩
          rw [← hcs] at hob hlen
          rw [hlen] at hob
          have HCS := Lib.hid hcs
          clear hcs
          have hcl : (bv cs).length = 16 := by rw [bv_length, hlen]
          obtain ⟨hl16, hob2⟩ := hob
          rcases hob2 with ⟨_, hn⟩ | ⟨g, cap, cur, rfl, hgb, hgg, hgr⟩
          · simp at hn
          have hrg : wr.rangeAt g 0 (bv cs) := by
            obtain ⟨h1, h2, h3, h4⟩ := hgr
            intro jj x hx
            rw [Nat.zero_add, cell_of_row wr g jj cur _ _ hgg]
            rw [← h4, List.getElem?_take] at hx
            split at hx
            · simpa using hx
            · cases hx
          have hwk : kb + 1 ≤ wo.heap.size := hkr
          have hwi := hbi.size
          have hrow0 := (hrow.next hbi)
          have hcw : wr.drew.cell? ⟨kb, 0, none⟩ = some sv := hrow0.cell rfl
          have hown0 : wr.drew.ownsRow (kb + 1) 49 16 sv r (bv (rk.take (16 * r))) := own_next (own_next hown hbi) (Below.refl _ _).drew
          have hbd : Below kb w2 wr.drew := hbr.trans ((hbi.mono (by omega)).trans (Below.refl _ _).drew)
          have hrowd : Row wr.drew kb 53 #[sv] := hrow0
          have hob0 : ∀ k, sv.ownBlock = some k → k < wo.heap.size := fun k hk => (hown.lt k hk).2
          have hrg' := rangeAt_add hrg
          clear hrow0 hgr hgg hrg
          have hcl' : (bv cs).toArray.size = 16 := by simpa using hcl
          go_wp2_with fail
          refine wp_region_noPanic ?_
          refine wp_region_popH (S := fun w' => w'.cell? ⟨kb, 0, none⟩ = some sv ∧ ∀ i x, (bv cs)[i]? = some x → w'.cell? ((⟨g, 0, none⟩ : Addr).add i) = some x) 12 (by kernel_rfl) rfl rfl (by kernel_rfl) ?_
          simp only [List.take_succ_cons, List.take_zero]
          have hS0 : wr.drew.cell? ⟨kb, 0, none⟩ = some sv ∧ ∀ i x, (bv cs)[i]? = some x → wr.drew.cell? ((⟨g, 0, none⟩ : Addr).add i) = some x := ⟨hcw, hrg'⟩
          (apply takeS (i := 0) hS0 rfl rfl (by kernel_rfl) (by kernel_rfl) (by kernel_rfl) (fun _ _ _ h => h) (by rfl); focus (rintro w ⟨hs1, hs2⟩; go_simp; try with_reducible rfl))
          (try simp only [Act.put, List.setIfInBounds_toArray, List.set_cons_zero, List.set_cons_succ])
          (apply takeS (i := 1) hS0 rfl rfl (by kernel_rfl) (by kernel_rfl) (by kernel_rfl) (fun _ _ _ h => h) (by rfl); focus (rintro w ⟨hs1, hs2⟩; go_simp; try with_reducible rfl))
          (try simp only [Act.put, List.setIfInBounds_toArray, List.set_cons_zero, List.set_cons_succ])
          (apply takeS (i := 5) hS0 rfl rfl (by kernel_rfl) (by kernel_rfl) (by kernel_rfl) (fun _ _ _ h => h) (by rfl); focus (rintro w ⟨hs1, hs2⟩; go_simp; try with_reducible rfl))
          (try simp only [Act.put, List.setIfInBounds_toArray, List.set_cons_zero, List.set_cons_succ])
          (apply takeS (i := 2) hS0 rfl rfl (by kernel_rfl) (by kernel_rfl) (by kernel_rfl) (fun _ _ _ h => h) (by rfl); focus (rintro w ⟨hs1, hs2⟩; go_simp; try with_reducible rfl))
          (try simp only [Act.put, List.setIfInBounds_toArray, List.set_cons_zero, List.set_cons_succ])
          (apply takeS (i := 3) hS0 rfl rfl (by kernel_rfl) (by kernel_rfl) (by kernel_rfl) (fun _ _ _ h => h) (by rfl); focus (rintro w ⟨hs1, hs2⟩; go_simp; try with_reducible rfl))
          (try simp only [Act.put, List.setIfInBounds_toArray, List.set_cons_zero, List.set_cons_succ])
          (apply takeS (i := 4) hS0 rfl rfl (by kernel_rfl) (by kernel_rfl) (by kernel_rfl) (fun _ _ _ h => h) (by rfl); focus (rintro w ⟨hs1, hs2⟩; go_simp; try with_reducible rfl))
          (try simp only [Act.put, List.setIfInBounds_toArray, List.set_cons_zero, List.set_cons_succ])
          (apply takeY (i := 6) hS0 rfl rfl (by kernel_rfl) (by kernel_rfl) (by kernel_rfl) (fun _ _ _ h => h); focus (exact yieldsIf_arr (ty := 49) (x := .tmp 47) (ad := ⟨g, 0, none⟩) (m := 16) (c := cap) (n := 16) (by rfl) rfl Try.underlying49 rfl (Nat.le_refl _)))
          (try simp only [Act.put, List.setIfInBounds_toArray, List.set_cons_zero, List.set_cons_succ])
          (apply takeY (i := 7) hS0 rfl rfl (by kernel_rfl) (by kernel_rfl) (by kernel_rfl) (fun _ _ _ h => h); focus (exact yieldsIf_loadArr (ty := 49) (x := .tmp 48) (ad := ⟨g, 0, none⟩) (bv cs) (by rfl) rfl Try.underlying49 size_a16 rfl hcl (fun w hw => hw.2)))
          (try simp only [Act.put, List.setIfInBounds_toArray, List.set_cons_zero, List.set_cons_succ])
          refine oneS (i := 8) rfl rfl (by kernel_rfl) (by rfl) (fun K hK => ?_)
          apply step_build1 (bv cs).toArray Try.underlying51 info_a16 (by omega) (by omega) hcl' rfl rfl rfl
          intro g8 w8 hg8 hg8' hr8 hb8
          have hS8 : w8.cell? ⟨kb, 0, none⟩ = some sv ∧ ∀ i x, (bv cs)[i]? = some x → w8.cell? ((⟨g, 0, none⟩ : Addr).add i) = some x := ⟨(hrowd.next hb8).cell rfl, fun i x hx => by
            have h1 := hrg' i x hx
            exact (hb8.cell (World.block_lt_of_cell? _ _ h1)).trans h1⟩
          refine hK.out _ _ hS8 (fun _ => ?_)
          clear hK K
          (try simp only [Act.put, List.setIfInBounds_toArray, List.set_cons_zero, List.set_cons_succ])
          refine oneS (i := 9) rfl rfl (by kernel_rfl) (by rfl) (fun K hK => ?_)
          apply step_append Try.underlying51 info_a16 rfl (by omega) (own_next hown0 hb8) (RdS.of_row hr8 (n := 1) (s := 16) (cap := 1) hcl' (Nat.le_refl _)) (bv_oneCell cs) (by omega) (by omega) (by have := hb8.size; simp at this; omega) rfl rfl rfl rfl
          intro v9 w9 hown9 hgr9
          obtain ⟨g9, k9, rfl⟩ := own_slice hown9 (Nat.succ_pos _)
          have hs8 := hb8.size
          simp at hs8
          have hrow9 : Row w9 kb 53 #[sv] := (hrowd.next hb8).grown hgr9 (fun h => (Nat.lt_irrefl _ (hown.lt kb h.symm).1))
          have hgw : g < w8.heap.size := by
            have h1 := World.block_lt_of_cell? _ _ (hS8.2 0 _ (List.getElem?_eq_getElem (by omega)))
            simpa [Addr.add_lit] using h1
          have hS9 : w9.cell? ⟨kb, 0, none⟩ = some sv ∧ ∀ i x, (bv cs)[i]? = some x → w9.cell? ((⟨g, 0, none⟩ : Addr).add i) = some x := ⟨hrow9.cell rfl, fun i x hx => by
            have h1 := hS8.2 i x hx
            have hbk := hgr9.block g hgw (fun h => Nat.lt_irrefl _ (Nat.lt_of_lt_of_le (hob0 _ h.symm) hgb))
            unfold World.cell? at h1 ⊢
            rw [Addr.add_lit] at h1 ⊢
            simp only [hbk] at h1 ⊢
            exact h1⟩
          refine hK.out _ _ hS9 (fun _ => ?_)
          clear hK K
          (try simp only [Act.put, List.setIfInBounds_toArray, List.set_cons_zero, List.set_cons_succ])
          (apply takeS (i := 10) hS9 rfl rfl (by kernel_rfl) (by kernel_rfl) (by kernel_rfl) (fun _ _ _ h => h) (by rfl); focus (rintro w ⟨hs1, hs2⟩; go_simp; try with_reducible rfl))
          (try simp only [Act.put, List.setIfInBounds_toArray, List.set_cons_zero, List.set_cons_succ])
          (apply takeS (i := 11) hS9 rfl rfl (by kernel_rfl) (by kernel_rfl) (by kernel_rfl) (fun _ _ _ h => h) (by rfl); focus (rintro w ⟨hs1, hs2⟩; go_simp; try with_reducible rfl))
          (try simp only [Act.put, List.setIfInBounds_toArray, List.set_cons_zero, List.set_cons_succ])
          refine wpAnyH_done (by kernel_rfl) ?_ _
          refine lastPost_go fun K hK => ?_
          have hf9 := hrow9.free 0
          have hc9 := hS9.1
          go_simp
          refine hK _ _ (NoPanic.normal ?_)
          have hgo : (w9.setCell ⟨kb, 0, none⟩ (.slice (some ⟨g9, 0, none⟩) (r + 1) k9)).ownsRow (kb + 1) 49 16 (.slice (some ⟨g9, 0, none⟩) (r + 1) k9) (r + 1) (bv (rk.take (16 * (r + 1)))) := by
            have h := own_setCell (i := 0) hown9 (Nat.lt_succ_self kb) (.slice (some ⟨g9, 0, none⟩) (r + 1) k9)
            rw [show 16 * (r + 1) = 16 * r + 16 from by omega, List.take_add, bv_append, ← show cs = (rk.drop (16 * r)).take 16 from HCS.out]
            simpa using h
          have hbo : Below kb w2 (w9.setCell ⟨kb, 0, none⟩ (.slice (some ⟨g9, 0, none⟩) (r + 1) k9)) := by
            refine hbd.trans ((hb8.mono (by simp; omega)).trans ((below_grown (B := kb) hgr9 (by omega) fun k hk => ?_).trans (below_setCell _ (Nat.le_refl _))))
            have := (hown.lt k hk).1
            omega
          have hks : kb < (w9.setCell ⟨kb, 0, none⟩ (.slice (some ⟨g9, 0, none⟩) (r + 1) k9)).heap.size := (hrow9.set 0 _).lt
          have hrs := hrow9.set 0 (.slice (some ⟨g9, 0, none⟩) (r + 1) k9)
          clear hS9 hS8 hgr9 hb8 hr8 hrow9 hc9 hf9 hown9 hK K
          go_wp2_with fail
          go_roundw
          case rel => exact ⟨r + 1, _, by omega, by go_num, hrs, hgo, hbo, hks⟩
          case measure => simp [intOf]; omega
    · go_wp2_with fail
      go_ret2
      obtain rfl : r = 15 := by omega
      rw [List.take_of_length_le (by rw [HRL.out]; omega)] at hown
      refine ⟨_, rfl, ⟨kb, sv, rfl, hkr, hrow.cell rfl, RdS.of_own hown⟩, hb2.trans (hbr.mono hkw)⟩
end Go.Proofs.Ytfinekmegiengaa
/- The walks of layer 7: blocks: added, shifted, put. -/
namespace Go.Proofs.Ytfinekmegiengaa
open Go.RowKit Nep
set_option maxRecDepth 100000
set_option linter.unusedVariables false
set_option linter.unusedSimpArgs false
set_option maxHeartbeats 1000000

/-- a block as a value -/
def blk (l : List Nat) : Value := .agg (bv l).toArray
theorem cells_blk (l : List Nat) : (blk l).cells = (bv l).toArray := rfl
theorem zero16 : (Value.agg (Array.replicate 16 (.int .u8 0))).cells = (bv (List.replicate 16 0)).toArray := rfl
theorem zinfo_a16 : (Try.prog.info? 49).map (fun i => (i.zero, i.size)) = some (some (.agg (Array.replicate 16 (.int .u8 0))), 16) := by kernel_rfl

theorem added_calls (a b : List Nat) (ha : Bytes a) (hb : Bytes b) (hla : a.length = 16) (hlb : b.length = 16) (w : World) :
    Calls Try.prog 109 #[blk a, blk b] w (RetB (blk (xorL a b)) w) := by
  obtain ⟨ys, hys⟩ : ∃ ys, ys = xorL a b := ⟨_, rfl⟩
  have hyl : ys.length = 16 := by rw [hys, xorL_length _ _ (by omega), hla]
  have hyg : ∀ k, k < 16 → (((a.getD k 0 : Nat) : Int)) = a.getD k 0 ∧ (bv ys)[k]? = some (.int .u8 ((a.getD k 0 ^^^ b.getD k 0 : Nat) : Int)) := by
    intro k hk
    refine ⟨rfl, ?_⟩
    rw [bv_get _ _ (by omega), hys]
    simp [xorL, List.getElem?_zipWith, List.getElem?_eq_getElem (show k < a.length by omega), List.getElem?_eq_getElem (show k < b.length by omega)]
  have HYG := Lib.hid hyg
  rw [← hys]
  clear hys hyg
  obtain ⟨va, hva⟩ : ∃ va, va = blk a := ⟨_, rfl⟩
  obtain ⟨vb, hvb⟩ : ∃ vb, vb = blk b := ⟨_, rfl⟩
  rw [← hva, ← hvb]
  go_enter Try.func109, Try.ntmps109
  go_wp2_with (first
    | (apply wpList_boxR va; rfl; rfl; rfl; intro ga w1 hga1 hga2 hra hb1)
    | (apply wpList_boxR vb; rfl; rfl; rfl; intro gb w2 hgb1 hgb2 hrb hb2)
    | (apply wpList_allocR _ _ zinfo_a16; rfl; rfl; intro gz w3 hgz1 hgz2 hrz hb3))
  have hra3 := (hra.next hb2).next hb3
  have hrb3 := hrb.next hb3
  have hwb : Below w.heap.size w w3 := hb1.trans ((hb2.mono hb1.size).trans (hb3.mono (Nat.le_trans hb1.size hb2.size)))
  have hs1 := hb1.size
  have hs2 := hb2.size
  rw [hva, cells_blk] at hra3
  rw [hvb, cells_blk] at hrb3
  rw [zero16] at hrz
  have hgg : ga < w3.heap.size ∧ gb < w3.heap.size ∧ gz < w3.heap.size ∧ ga ≠ gb ∧ ga ≠ gz ∧ gb ≠ gz ∧ w.heap.size ≤ ga ∧ w.heap.size ≤ gb ∧ w.heap.size ≤ gz := ⟨hra3.lt, hrb3.lt, hrz.lt, by omega, by omega, by omega, by omega, by omega, by omega⟩
  obtain ⟨hga, hgb, hgz, n1, n2, n3, b1, b2, b3⟩ := hgg
  have hf0 : FillRow w3 ga 49 (bv ys) (bv a) 0 := .start hra3 (by rw [bv_length, bv_length, hyl, hla])
  have HLA := Lib.hid hla
  have HLB := Lib.hid hlb
  have HYL := Lib.hid hyl
  clear hra hrb hb1 hb2 hb3 hra3 hs1 hs2 hga1 hga2 hgb1 hgb2 hgz1 hgz2 hva hvb hla hlb hyl
  go_loopw [6] (fun i wr => ∃ k : Nat, k ≤ 16 ∧ i = .int .i64 k ∧ FillRow wr ga 49 (bv ys) (bv a) k ∧ Row wr gb 49 (bv b).toArray ∧ Row wr gz 49 (bv (List.replicate 16 0)).toArray ∧ Below w.heap.size w wr) (fun i _ => 16 - (intOf i).toNat)
  case atStart => exact ⟨0, by omega, rfl, hf0, hrb3, hrz, hwb⟩
  case round =>
    obtain ⟨k, hk, rfl, hfk, hrk, hzk, hbk⟩ := hrel
    clear hf0 hrb3 hrz hwb
    by_cases hlt : k < 16
    · obtain ⟨x, hx⟩ : ∃ x, x = a.getD k 0 := ⟨_, rfl⟩
      obtain ⟨y, hy⟩ : ∃ y, y = b.getD k 0 := ⟨_, rfl⟩
      have hx8 : x < 256 := by rw [hx]; exact ha.get k
      have hy8 : y < 256 := by rw [hy]; exact hb.get k
      have hyk := (HYG.out k hlt).2
      rw [← hx, ← hy] at hyk
      have HYK := Lib.hid hyk
      have hc1 : wr.drew.cell? ⟨ga, k, none⟩ = some (.int .u8 x) := by
        have h := hfk.cell (by rw [bv_length, HLA.out]; exact hlt)
        rw [List.getD_eq_getElem?_getD, bv_get _ _ (by rw [HLA.out]; exact hlt), ← hx] at h
        exact h
      have hc2 : wr.drew.cell? ⟨gb, k, none⟩ = some (.int .u8 y) := hrk.cell (by rw [List.getElem?_toArray, bv_get _ _ (by rw [HLB.out]; exact hlt), ← hy])
      have hfr : wr.drew.frozen? ⟨ga, k, none⟩ = false := hfk.free k
      have hx3 := u8_xor_nat x y hx8 hy8
      have hfd : FillRow wr.drew ga 49 (bv ys) (bv a) k := ⟨hfk.row, hfk.len⟩
      have hrd : Row wr.drew gb 49 (bv b).toArray := hrk
      have hzd : Row wr.drew gz 49 (bv (List.replicate 16 0)).toArray := hzk
      have hbd : Below w.heap.size w wr.drew := hbk.drew
      clear hx hy hyk hfk hrk hzk hbk
      go_wp2_with fail
      go_still_tail 8, (by kernel_rfl)
      change wpList _ _ _ _ _ wr.drew
      generalize wr.drew = wd at *
      go_wp2
      go_roundw
      case rel => exact ⟨k + 1, by omega, by go_num, hfd.put HYK.out, hrd.other (Ne.symm n1) _, hzd.other (Ne.symm n2) _, hbd.setCell (by exact b1) _⟩
      case measure => simp [intOf]; omega
    · obtain rfl : k = 16 := by omega
      have hra := hfk.done (by rw [bv_length, HLA.out]; exact Nat.le_refl _)
      have hyl : (bv ys).length = 16 := by rw [bv_length, HYL.out]
      have hgw := hzk.lt
      go_wp2_with (first
        | (apply wpList_loadRow hra hyl Try.underlying49 size_a16; rfl; rfl; rfl)
        | (apply wpList_storeRow hzk (bv ys).toArray; rfl; rfl; rfl; rfl; (rw [List.size_toArray, hyl]; exact size_a16); (rw [List.size_toArray, List.size_toArray, hyl, bv_length, List.length_replicate]); exact bv_all ys; intro w4 hw4 hr4 hs4))
      refine ret_row rfl gz _ (bv ys).toArray (0, 0) _ rfl hr4 rfl Try.underlying49 rfl (by rw [List.size_toArray, hyl]; exact size_a16) ?_
      rw [hw4]
      exact ⟨rfl, hbk.trans (below_row _ b3)⟩

/-- the place in a block from which a row's byte comes -/
def shP (by' j : Nat) : Nat := 4 * ((j / 4 + by' * (j % 4)) % 4) + j % 4
theorem shL_get (b : List Nat) (n j : Nat) (hj : j < 16) : (shL b n).getD j 0 = b.getD (shP n j) 0 := by
  unfold shL shP
  simp [hj]

theorem shifted_calls (a : List Nat) (ha : Bytes a) (hla : a.length = 16) (n : Nat) {N : Int} (hN : N = n) (hn : n ≤ 3) (w : World) :
    Calls Try.prog 110 #[blk a, .int .i64 N] w (RetB (blk (shL a n)) w) := by
  subst hN
  obtain ⟨ys, hys⟩ : ∃ ys, ys = shL a n := ⟨_, rfl⟩
  have hyl : ys.length = 16 := by rw [hys, shL_length]
  have hyg : ∀ c i, c < 4 → i < 4 → 4 * ((c + n * i) % 4) + i < 16 ∧ (bv ys)[4 * c + i]? = some (.int .u8 ((a.getD (4 * ((c + n * i) % 4) + i) 0 : Nat) : Int)) := by
    intro c i hc hi
    refine ⟨by omega, ?_⟩
    rw [bv_get _ _ (by omega), hys, shL_get _ _ _ (by omega)]
    unfold shP
    rw [show (4 * c + i) / 4 = c from by omega, show (4 * c + i) % 4 = i from by omega]
  have HYG := Lib.hid hyg
  rw [← hys]
  clear hys hyg
  obtain ⟨va, hva⟩ : ∃ va, va = blk a := ⟨_, rfl⟩
  rw [← hva]
  go_enter Try.func110, Try.ntmps110
  go_wp2_with (first
    | (apply wpList_boxR va; rfl; rfl; rfl; intro ga w1 hga1 hga2 hra hb1)
    | (apply wpList_allocR (w := w1) _ _ zinfo_a16; rfl; rfl; intro gz w2 hgz1 hgz2 hrz hb2)
    | (apply wpList_allocR (w := w2) _ _ zinfo_a16; rfl; rfl; intro go w3 hgo1 hgo2 hro hb3))
  have hra3 := (hra.next hb2).next hb3
  have hrz3 := hrz.next hb3
  have hwb : Below w.heap.size w w3 := hb1.trans ((hb2.mono hb1.size).trans (hb3.mono (Nat.le_trans hb1.size hb2.size)))
  have hs1 := hb1.size
  have hs2 := hb2.size
  rw [hva, cells_blk] at hra3
  rw [zero16] at hrz3 hro
  have hgg : ga ≠ gz ∧ ga ≠ go ∧ gz ≠ go ∧ w.heap.size ≤ ga ∧ w.heap.size ≤ gz ∧ w.heap.size ≤ go := ⟨by omega, by omega, by omega, by omega, by omega, by omega⟩
  obtain ⟨n1, n2, n3, b1, b2, b3⟩ := hgg
  have hf0 : FillRow w3 go 49 (bv ys) (bv (List.replicate 16 0)) 0 := .start hro (by rw [bv_length, bv_length, hyl, List.length_replicate])
  have HLA := Lib.hid hla
  have HYL := Lib.hid hyl
  clear hra hrz hb1 hb2 hb3 hs1 hs2 hga1 hga2 hgz1 hgz2 hgo1 hgo2 hva hla hyl hro
  go_loopw [8] (fun i wr => ∃ c : Nat, c ≤ 4 ∧ i = .int .i64 c ∧ FillRow wr go 49 (bv ys) (bv (List.replicate 16 0)) (4 * c) ∧ Row wr ga 49 (bv a).toArray ∧ Row wr gz 49 (bv (List.replicate 16 0)).toArray ∧ Below w.heap.size w wr) (fun i _ => 4 - (intOf i).toNat)
  case atStart => exact ⟨0, by omega, rfl, hf0, hra3, hrz3, hwb⟩
  case round =>
    obtain ⟨c, hc, rfl, hfk, hrk, hzk, hbk⟩ := hrel
    clear hf0 hra3 hrz3 hwb
    by_cases hlt : c < 4
    · obtain ⟨wo, hwo⟩ : ∃ wo : World, wo = wr := ⟨_, rfl⟩
      go_wp2_with fail
      go_loopw [11] (fun i wi => ∃ j : Nat, j ≤ 4 ∧ i = .int .i64 j ∧ FillRow wi go 49 (bv ys) (bv (List.replicate 16 0)) (4 * c + j) ∧ Row wi ga 49 (bv a).toArray ∧ Row wi gz 49 (bv (List.replicate 16 0)).toArray ∧ Below w.heap.size w wi) (fun i _ => 4 - (intOf i).toNat)
      case atStart => exact ⟨0, by omega, rfl, hfk, hrk, hzk, hbk⟩
      case round =>
        obtain ⟨j, hj4, rfl, hfi, hri, hzi, hbi⟩ := hrel
        clear hfk hrk hzk hbk
        by_cases hj : j < 4
        · obtain ⟨p, hp⟩ : ∃ p, p = n * j := ⟨_, rfl⟩
          have hp9 : p ≤ 9 := by rw [hp]; exact Nat.mul_le_mul hn (show j ≤ 3 by omega)
          obtain ⟨q, hq⟩ : ∃ q, q = (c + p) % 4 := ⟨_, rfl⟩
          have hq4 : q < 4 := by omega
          obtain ⟨hqi, hyk⟩ := HYG.out c j hlt hj
          rw [← hp, ← hq] at hqi hyk
          obtain ⟨x, hx⟩ : ∃ x, x = a.getD (4 * q + j) 0 := ⟨_, rfl⟩
          rw [← hx] at hyk
          have HYK := Lib.hid hyk
          have hx8 : x < 256 := by rw [hx]; exact ha.get _
          have hc1 : wr.cell? ⟨ga, 4 * q + j, none⟩ = some (.int .u8 x) := hri.cell (by rw [List.getElem?_toArray, bv_get _ _ (by rw [HLA.out]; exact hqi), ← hx])
          have hc2 : wr.cell? ⟨go, 4 * c + j, none⟩ = some ((bv (List.replicate 16 0)).getD (4 * c + j) undef) := hfi.cell (by rw [bv_length, List.length_replicate]; omega)
          have hfr : wr.frozen? ⟨go, 4 * c + j, none⟩ = false := hfi.free _
          have e1 : IntKind.i64.wrap ((n : Int) * (j : Int)) = (p : Int) := by
            rw [show ((n : Int) * (j : Int)) = (p : Int) from by rw [hp]; simp]
            exact IntWalk.i64_in _ (by omega)
          have e2 : ((c : Int) + (p : Int)) % 4 = (q : Int) := by omega
          clear hx hp hq hyk
          go_wp2_with fail
          go_roundw
          case rel => exact ⟨j + 1, by omega, by go_num, hfi.put HYK.out, hri.other n2 _, hzi.other n3 _, hbi.setCell (by exact b3) _⟩
          case measure => simp [intOf]; omega
        · obtain rfl : j = 4 := by omega
          go_wp2_with fail
          go_roundw
          case rel => exact ⟨c + 1, by omega, by go_num, hfi, hri, hzi, hbi⟩
          case measure => simp [intOf]; omega
    · obtain rfl : c = 4 := by omega
      have hro := hfk.done (by rw [bv_length, List.length_replicate]; exact Nat.le_refl _)
      have hyl : (bv ys).length = 16 := by rw [bv_length, HYL.out]
      have hgw := hzk.lt
      go_wp2_with (first
        | (apply wpList_loadRow hro hyl Try.underlying49 size_a16; rfl; rfl; rfl)
        | (apply wpList_storeRow hzk (bv ys).toArray; rfl; rfl; rfl; rfl; (rw [List.size_toArray, hyl]; exact size_a16); (rw [List.size_toArray, List.size_toArray, hyl, bv_length, List.length_replicate]); exact bv_all ys; intro w4 hw4 hr4 hs4))
      refine ret_row rfl gz _ (bv ys).toArray (0, 0) _ rfl hr4 rfl Try.underlying49 rfl (by rw [List.size_toArray, hyl]; exact size_a16) ?_
      rw [hw4]
      exact ⟨rfl, hbk.trans (below_row _ b2)⟩


theorem put_calls (a : List Nat) (ha : Bytes a) (hla : a.length = 16) (F : FuncId) (f : Nat → Nat) (hcf : ∀ args w, (callFunc F args).run Try.prog w = .ok (.enter F args) w) (hF : ∀ (x : Nat) (w : World), x < 256 → Calls Try.prog F #[.int .u8 x] w (RetB (.int .u8 (f x)) w)) (w : World) :
    Calls Try.prog 111 #[blk a, .func (.func F) #[] #[]] w (RetB (blk (a.map f)) w) := by
  obtain ⟨ys, hys⟩ : ∃ ys, ys = a.map f := ⟨_, rfl⟩
  have hyl : ys.length = 16 := by rw [hys, List.length_map, hla]
  have hyg : ∀ k, k < 16 → (bv ys)[k]? = some (.int .u8 ((f (a.getD k 0) : Nat) : Int)) := by
    intro k hk
    rw [bv_get _ _ (by omega), hys]
    simp [List.getElem?_eq_getElem (show k < a.length by omega)]
  have HYG := Lib.hid hyg
  have HF := Lib.hid hF
  rw [← hys]
  clear hys hyg hF
  obtain ⟨va, hva⟩ : ∃ va, va = blk a := ⟨_, rfl⟩
  rw [← hva]
  go_enter Try.func111, Try.ntmps111
  go_wp2_with (first
    | (apply wpList_boxR va; rfl; rfl; rfl; intro ga w1 hga1 hga2 hra hb1)
    | (apply wpList_allocR _ _ zinfo_a16; rfl; rfl; intro gz w3 hgz1 hgz2 hrz hb3))
  have hra3 := hra.next hb3
  have hwb : Below w.heap.size w w3 := hb1.trans (hb3.mono hb1.size)
  have hs1 := hb1.size
  rw [hva, cells_blk] at hra3
  rw [zero16] at hrz
  have hgg : ga ≠ gz ∧ w.heap.size ≤ ga ∧ w.heap.size ≤ gz := ⟨by omega, by omega, by omega⟩
  obtain ⟨n1, b1, b2⟩ := hgg
  have hf0 : FillRow w3 ga 49 (bv ys) (bv a) 0 := .start hra3 (by rw [bv_length, bv_length, hyl, hla])
  have HLA := Lib.hid hla
  have HYL := Lib.hid hyl
  clear hra hb1 hb3 hra3 hs1 hga1 hga2 hgz1 hgz2 hva hla hyl
  go_loopw [6] (fun i wr => ∃ k : Nat, k ≤ 16 ∧ i = .int .i64 k ∧ FillRow wr ga 49 (bv ys) (bv a) k ∧ Row wr gz 49 (bv (List.replicate 16 0)).toArray ∧ Below w.heap.size w wr) (fun i _ => 16 - (intOf i).toNat)
  case atStart => exact ⟨0, by omega, rfl, hf0, hrz, hwb⟩
  case round =>
    obtain ⟨k, hk, rfl, hfk, hzk, hbk⟩ := hrel
    clear hf0 hrz hwb
    by_cases hlt : k < 16
    · obtain ⟨x, hx⟩ : ∃ x, x = a.getD k 0 := ⟨_, rfl⟩
      have hx8 : x < 256 := by rw [hx]; exact ha.get k
      have hyk := HYG.out k hlt
      rw [← hx] at hyk
      have HYK := Lib.hid hyk
      have C1 : ∀ w, Calls Try.prog F #[.int .u8 x] w (RetB (.int .u8 (f x)) w) := fun w => HF.out x w hx8
      have HC1 := Lib.hid C1
      have hc1 : wr.cell? ⟨ga, k, none⟩ = some (.int .u8 x) := by
        have h := hfk.cell (by rw [bv_length, HLA.out]; exact hlt)
        rw [List.getD_eq_getElem?_getD, bv_get _ _ (by rw [HLA.out]; exact hlt), ← hx] at h
        exact h
      have hbs := hbk.size
      clear hx hyk C1
      go_wp2_with (first
        | (refine (HC1.out _).mono ?_; rintro e w2 ⟨rfl, hb2⟩; have hf2 := hfk.next hb2; have hfr2 := hf2.free k; have hz2 := hzk.next hb2; have hbk2 := hbk.trans (hb2.mono hbs); have hc2 := hf2.cell (by rw [bv_length, HLA.out]; exact hlt)))
      go_roundw
      case rel => exact ⟨k + 1, by omega, by go_num, hf2.put HYK.out, hz2.other (Ne.symm n1) _, hbk2.setCell (by exact b1) _⟩
      case measure => simp [intOf]; omega
    · obtain rfl : k = 16 := by omega
      have hra := hfk.done (by rw [bv_length, HLA.out]; exact Nat.le_refl _)
      have hyl : (bv ys).length = 16 := by rw [bv_length, HYL.out]
      have hgw := hzk.lt
      go_wp2_with (first
        | (apply wpList_loadRow hra hyl Try.underlying49 size_a16; rfl; rfl; rfl)
        | (apply wpList_storeRow hzk (bv ys).toArray; rfl; rfl; rfl; rfl; (rw [List.size_toArray, hyl]; exact size_a16); (rw [List.size_toArray, List.size_toArray, hyl, bv_length, List.length_replicate]); exact bv_all ys; intro w4 hw4 hr4 hs4))
      refine ret_row rfl gz _ (bv ys).toArray (0, 0) _ rfl hr4 rfl Try.underlying49 rfl (by rw [List.size_toArray, hyl]; exact size_a16) ?_
      rw [hw4]
      exact ⟨rfl, hbk.trans (below_row _ b2)⟩

theorem callFunc_sub (args : Array Value) (w : World) : (callFunc 29 args).run Try.prog w = .ok (.enter 29 args) w := by
  rfl
theorem put_sub_calls (a : List Nat) (ha : Bytes a) (hla : a.length = 16) (w : World) : Calls Try.prog 111 #[blk a, .func (.func 29) #[] #[]] w (RetB (blk (a.map sb)) w) :=
  put_calls a ha hla _ sb callFunc_sub (fun x w hx => (sub_calls x rfl hx w)) w
end Go.Proofs.Ytfinekmegiengaa
/- The walks of layer 7: a column, mixed; a block's columns. -/
namespace Go.Proofs.Ytfinekmegiengaa
open Go.RowKit Nep
set_option maxRecDepth 100000
set_option linter.unusedVariables false
set_option linter.unusedSimpArgs false
set_option maxHeartbeats 1000000

theorem zero4 : (Value.agg (Array.replicate 4 (.int .u8 0))).cells = (bv (List.replicate 4 0)).toArray := rfl
theorem zinfo_a4 : (Try.prog.info? 132).map (fun i => (i.zero, i.size)) = some (some (.agg (Array.replicate 4 (.int .u8 0))), 4) := by kernel_rfl
theorem size_a4 : (Try.prog.info? 132).map (·.size) = some 4 := by kernel_rfl

theorem index4 (c : Array Value) (a : Nat) (v : Value) (ha : a < 4) (hv : c[a]? = some v) (w : World) : (Instr.index 132 (.agg c) (.int .i64 a)).run Try.prog w = .ok v w := 
  run_index_agg c a v w Try.underlying132 (by kernel_rfl) (by kernel_rfl) ha hv

theorem turned_calls (c m : List Nat) (hc : Bytes c) (hm : ∀ x ∈ m, x < 16) (hlc : c.length = 4) (hlm : m.length = 4) (w : World) :
    Calls Try.prog 148 #[blk c, blk m] w (RetB (blk (mixC m c)) w) := by
  have hmg : ∀ k, m.getD k 0 < 16 := fun k => by
    rcases Nat.lt_or_ge k m.length with h | h
    · rw [List.getD_eq_getElem?_getD, List.getElem?_eq_getElem h]; exact hm _ (List.getElem_mem _)
    · rw [List.getD_eq_getElem?_getD, List.getElem?_eq_none h]; simp
  obtain ⟨vc, hvc⟩ : ∃ vc, vc = blk c := ⟨_, rfl⟩
  obtain ⟨vm, hvm⟩ : ∃ vm, vm = blk m := ⟨_, rfl⟩
  rw [← hvc, ← hvm]
  go_enter Try.func148, Try.ntmps148
  go_wp2_with (first
    | (apply wpList_boxR vc; rfl; rfl; rfl; intro ga w1 hga1 hga2 hra hb1)
    | (apply wpList_boxR vm; rfl; rfl; rfl; intro gb w2 hgb1 hgb2 hrb hb2)
    | (apply wpList_allocR (w := w2) _ _ zinfo_a4; rfl; rfl; intro gz w3 hgz1 hgz2 hrz hb3)
    | (apply wpList_allocR (w := w3) _ _ zinfo_a4; rfl; rfl; intro go w4 hgo1 hgo2 hro hb4))
  have hra4 := ((hra.next hb2).next hb3).next hb4
  have hrb4 := (hrb.next hb3).next hb4
  have hrz4 := hrz.next hb4
  have hs1 := hb1.size
  have hs2 := hb2.size
  have hs3 := hb3.size
  have hwb : Below w.heap.size w w4 := hb1.trans ((hb2.mono hs1).trans ((hb3.mono (by omega)).trans (hb4.mono (by omega))))
  rw [hvc, cells_blk] at hra4
  rw [hvm, cells_blk] at hrb4
  rw [zero4] at hrz4 hro
  rw [← mixP_zero m c] at hro
  have hgg : ga ≠ go ∧ gb ≠ go ∧ gz ≠ go ∧ w.heap.size ≤ go ∧ w.heap.size ≤ gz := ⟨by omega, by omega, by omega, by omega, by omega⟩
  obtain ⟨n1, n2, n3, b1, b2⟩ := hgg
  have HLC := Lib.hid hlc
  have HLM := Lib.hid hlm
  clear hra hrb hrz hb1 hb2 hb3 hb4 hs1 hs2 hs3 hga1 hga2 hgb1 hgb2 hgz1 hgz2 hgo1 hgo2 hvc hvm hlc hlm
  go_loopw [9] (fun i wr => ∃ n : Nat, n ≤ 4 ∧ i = .int .i64 n ∧ Row wr go 132 (bv (mixP m c n 0)).toArray ∧ Row wr ga 132 (bv c).toArray ∧ Row wr gb 132 (bv m).toArray ∧ Row wr gz 132 (bv (List.replicate 4 0)).toArray ∧ Below w.heap.size w wr) (fun i _ => 4 - (intOf i).toNat)
  case atStart => exact ⟨0, by omega, rfl, hro, hra4, hrb4, hrz4, hwb⟩
  case round =>
    obtain ⟨n, hn, rfl, hfk, hak, hbk, hzk, hwk⟩ := hrel
    clear hro hra4 hrb4 hrz4 hwb
    by_cases hlt : n < 4
    · obtain ⟨wo, hwo⟩ : ∃ wo : World, wo = wr := ⟨_, rfl⟩
      have hml : (bv m).length = 4 := by rw [bv_length, HLM.out]
      go_wp2_with (first
        | (apply wpList_loadRow hbk hml Try.underlying132 size_a4; rfl; rfl; rfl))
      go_loopw [13] (fun i wi => ∃ k : Nat, k ≤ 4 ∧ i = .int .i64 k ∧ Row wi go 132 (bv (mixP m c n k)).toArray ∧ Row wi ga 132 (bv c).toArray ∧ Row wi gb 132 (bv m).toArray ∧ Row wi gz 132 (bv (List.replicate 4 0)).toArray ∧ Below w.heap.size w wi) (fun i _ => 4 - (intOf i).toNat)
      case atStart => exact ⟨0, by omega, rfl, hfk, hak, hbk, hzk, hwk⟩
      case round =>
        obtain ⟨k, hk4, rfl, hfi, hai, hbi, hzi, hwi⟩ := hrel
        clear hfk hak hbk hzk hwk
        by_cases hk : k < 4
        · obtain ⟨q, hq⟩ : ∃ q, q = (n + k) % 4 := ⟨_, rfl⟩
          have hq4 : q < 4 := by omega
          obtain ⟨x, hx⟩ : ∃ x, x = m.getD k 0 := ⟨_, rfl⟩
          obtain ⟨y, hy⟩ : ∃ y, y = c.getD q 0 := ⟨_, rfl⟩
          obtain ⟨z, hz⟩ : ∃ z, z = mixA m c n k := ⟨_, rfl⟩
          have hx16 : x < 16 := by rw [hx]; exact hmg k
          have hy8 : y < 256 := by rw [hy]; exact hc.get q
          have hz8 : z < 256 := by rw [hz]; exact mixA_lt _ _ _ _
          obtain ⟨p, hp⟩ : ∃ p, p = rmul x y := ⟨_, rfl⟩
          have hp8 : p < 256 := by rw [hp]; exact rmul_lt _ _
          have hnext : mixA m c n (k + 1) = z ^^^ p := by rw [hz, hp, hx, hy, hq]; rfl
          have hset := mixP_set m c n k hlt
          rw [hnext] at hset
          have hc0 : wr.drew.cell? ⟨go, n, none⟩ = some (.int .u8 z) := hfi.cell (by
            rw [List.getElem?_toArray]
            unfold bv
            rw [List.getElem?_map, mixP_get m c n k hlt, ← hz]
            rfl)
          have hc1 : wr.drew.cell? ⟨ga, q, none⟩ = some (.int .u8 y) := hai.cell (by rw [List.getElem?_toArray, bv_get _ _ (by rw [HLC.out]; exact hq4), ← hy])
          have hfr : wr.drew.frozen? ⟨go, n, none⟩ = false := hfi.free n
          obtain ⟨s, hs⟩ : ∃ s, s = n + k := ⟨_, rfl⟩
          have e3 : IntKind.i64.wrap ((n : Int) + (k : Int)) = (s : Int) := by rw [hs, IntWalk.i64_in _ (by omega)]; omega
          have e4 : ((s : Int)).tmod 4 = (q : Int) := by rw [Int.tmod_eq_emod_of_nonneg (by omega)]; omega
          have hq4i : (q : Int) < 4 := by omega
          have hidx : (bv m).toArray[k]? = some (.int .u8 x) := by rw [List.getElem?_toArray, bv_get _ _ (by rw [HLM.out]; exact hk), ← hx]
          have hix := fun w => index4 (bv m).toArray k _ hk hidx w
          have C1 : ∀ w, Calls Try.prog 147 #[.int .u8 x, .int .u8 y] w (RetP (.int .u8 p) w) := fun w => by
            rw [hp, ← fmul_eq x hx16 y hy8]
            exact fmul_calls x y rfl rfl (by omega) hy8 w
          have HC1 := Lib.hid C1
          have hx3 := u8_xor_nat z p hz8 hp8
          have HSET := Lib.hid hset
          clear hx hy hz hp hq hnext hset C1 hs
          go_wp2_with fail
          go_still_tail 13, (by kernel_rfl)
          still_call ((HC1.out _).mono (fun e w'' h => ⟨h.1, h.2.symm⟩))
          repeat still_step
          refine wpStill_nil ?_
          change wpList _ _ _ _ _ wr.drew
          have hfid : Row wr.drew go 132 (bv (mixP m c n k)).toArray := hfi
          have haid : Row wr.drew ga 132 (bv c).toArray := hai
          have hbid : Row wr.drew gb 132 (bv m).toArray := hbi
          have hzid : Row wr.drew gz 132 (bv (List.replicate 4 0)).toArray := hzi
          have hwid : Below w.heap.size w wr.drew := hwi.drew
          clear hfi hai hbi hzi hwi
          generalize wr.drew = wd at *
          go_wp2
          go_roundw
          case rel =>
            refine ⟨k + 1, by omega, by go_num, ?_, haid.other n1 _, hbid.other n2 _, hzid.other n3 _, hwid.setCell (by exact b1) _⟩
            have h := hfid.set n (.int .u8 ((z ^^^ p : Nat) : Int))
            rw [List.setIfInBounds_toArray] at h
            rw [← HSET.out]
            unfold bv at h ⊢
            rw [List.map_set]
            exact h
          case measure => simp [intOf]; omega
        · obtain rfl : k = 4 := by omega
          rw [mixP_next] at hfi
          go_wp2_with fail
          go_roundw
          case rel => exact ⟨n + 1, by omega, by go_num, hfi, hai, hbi, hzi, hwi⟩
          case measure => simp [intOf]; omega
    · obtain rfl : n = 4 := by omega
      rw [mixP_full] at hfk
      have hyl : (bv (mixC m c)).length = 4 := by rw [bv_length, mixC_length]
      generalize mixC m c = ys at *
      go_wp2_with (first
        | (apply wpList_loadRow hfk hyl Try.underlying132 size_a4; rfl; rfl; rfl)
        | (apply wpList_storeRow hzk (bv ys).toArray; rfl; rfl; rfl; rfl; (rw [List.size_toArray, hyl]; exact size_a4); (rw [List.size_toArray, List.size_toArray, hyl, bv_length, List.length_replicate]); exact bv_all ys; intro w5 hw5 hr5 hs5))
      refine ret_row rfl gz _ (bv ys).toArray (0, 0) _ rfl hr5 rfl Try.underlying132 rfl (by rw [List.size_toArray, hyl]; exact size_a4) ?_
      rw [hw5]
      exact ⟨rfl, hwk.trans (below_row _ b2)⟩
end Go.Proofs.Ytfinekmegiengaa
/- The walks of layer 7: a column, mixed and unmixed; a block's columns. -/
namespace Go.Proofs.Ytfinekmegiengaa
open Go.RowKit Nep
set_option maxRecDepth 100000
set_option linter.unusedVariables false
set_option linter.unusedSimpArgs false
set_option maxHeartbeats 1000000

theorem mix_calls (c : List Nat) (hc : Bytes c) (hlc : c.length = 4) (w : World) :
    Calls Try.prog 113 #[blk c] w (RetB (blk (mixC [2, 3, 1, 1] c)) w) := by
  have C1 : ∀ w, Calls Try.prog 148 #[.agg (bv c).toArray, .agg #[.int .u8 2, .int .u8 3, .int .u8 1, .int .u8 1]] w (RetB (blk (mixC [2, 3, 1, 1] c)) w) := fun w => turned_calls c [2, 3, 1, 1] hc (by decide) hlc rfl w
  have hyl : (bv (mixC [2, 3, 1, 1] c)).length = 4 := by rw [bv_length, mixC_length]
  generalize mixC [2, 3, 1, 1] c = ys at *
  have hcl : (bv c).length = 4 := by rw [bv_length, hlc]
  have HC1 := Lib.hid C1
  clear C1
  obtain ⟨vc, hvc⟩ : ∃ vc, vc = blk c := ⟨_, rfl⟩
  rw [← hvc]
  go_enter Try.func113, Try.ntmps113
  go_wp2_with (first
    | (apply wpList_boxR vc; rfl; rfl; rfl; intro ga w1 hga1 hga2 hra hb1; rw [hvc, cells_blk] at hra)
    | (apply wpList_allocR _ _ zinfo_a4; rfl; rfl; intro gz w2 hgz1 hgz2 hrz hb2; have hra2 := hra.next hb2; rw [zero4] at hrz)
    | (apply wpList_loadRow hra2 hcl Try.underlying132 size_a4; rfl; rfl; rfl)
    | (go_at_call 148; refine (HC1.out _).mono ?_; rintro e w3 ⟨rfl, hb3⟩; have hrz3 := hrz.next hb3)
    | (apply wpList_storeRow hrz3 (bv ys).toArray; rfl; rfl; rfl; rfl; (rw [List.size_toArray, hyl]; exact size_a4); (rw [List.size_toArray, List.size_toArray, hyl, bv_length, List.length_replicate]); exact bv_all ys; intro w5 hw5 hr5 hs5))
  refine ret_row rfl gz _ (bv ys).toArray (0, 0) _ rfl hr5 rfl Try.underlying132 rfl (by rw [List.size_toArray, hyl]; exact size_a4) ?_
  rw [hw5]
  have hs1 := hb1.size
  have hs2 := hb2.size
  exact ⟨rfl, (hb1.trans ((hb2.mono hs1).trans (hb3.mono (by omega)))).trans (below_row _ (by omega))⟩

theorem unmix_calls (c : List Nat) (hc : Bytes c) (hlc : c.length = 4) (w : World) :
    Calls Try.prog 118 #[blk c] w (RetB (blk (mixC [14, 11, 13, 9] c)) w) := by
  have C1 : ∀ w, Calls Try.prog 148 #[.agg (bv c).toArray, .agg #[.int .u8 14, .int .u8 11, .int .u8 13, .int .u8 9]] w (RetB (blk (mixC [14, 11, 13, 9] c)) w) := fun w => turned_calls c [14, 11, 13, 9] hc (by decide) hlc rfl w
  have hyl : (bv (mixC [14, 11, 13, 9] c)).length = 4 := by rw [bv_length, mixC_length]
  generalize mixC [14, 11, 13, 9] c = ys at *
  have hcl : (bv c).length = 4 := by rw [bv_length, hlc]
  have HC1 := Lib.hid C1
  clear C1
  obtain ⟨vc, hvc⟩ : ∃ vc, vc = blk c := ⟨_, rfl⟩
  rw [← hvc]
  go_enter Try.func118, Try.ntmps118
  go_wp2_with (first
    | (apply wpList_boxR vc; rfl; rfl; rfl; intro ga w1 hga1 hga2 hra hb1; rw [hvc, cells_blk] at hra)
    | (apply wpList_allocR _ _ zinfo_a4; rfl; rfl; intro gz w2 hgz1 hgz2 hrz hb2; have hra2 := hra.next hb2; rw [zero4] at hrz)
    | (apply wpList_loadRow hra2 hcl Try.underlying132 size_a4; rfl; rfl; rfl)
    | (go_at_call 148; refine (HC1.out _).mono ?_; rintro e w3 ⟨rfl, hb3⟩; have hrz3 := hrz.next hb3)
    | (apply wpList_storeRow hrz3 (bv ys).toArray; rfl; rfl; rfl; rfl; (rw [List.size_toArray, hyl]; exact size_a4); (rw [List.size_toArray, List.size_toArray, hyl, bv_length, List.length_replicate]); exact bv_all ys; intro w5 hw5 hr5 hs5))
  refine ret_row rfl gz _ (bv ys).toArray (0, 0) _ rfl hr5 rfl Try.underlying132 rfl (by rw [List.size_toArray, hyl]; exact size_a4) ?_
  rw [hw5]
  have hs1 := hb1.size
  have hs2 := hb2.size
  exact ⟨rfl, (hb1.trans ((hb2.mono hs1).trans (hb3.mono (by omega)))).trans (below_row _ (by omega))⟩

theorem columns_calls (b m : List Nat) (hb : Bytes b) (hlb : b.length = 16) (F : FuncId) (hcf : ∀ args w, (callFunc F args).run Try.prog w = .ok (.enter F args) w)
    (hF : ∀ (c : List Nat) (w : World), Bytes c → c.length = 4 → Calls Try.prog F #[blk c] w (RetB (blk (mixC m c)) w)) (w : World) :
    Calls Try.prog 112 #[blk b, .func (.func F) #[] #[]] w (RetB (blk (mixL m b)) w) := by
  have HF := Lib.hid hF
  clear hF
  obtain ⟨vb, hvb⟩ : ∃ vb, vb = blk b := ⟨_, rfl⟩
  rw [← hvb]
  go_enter Try.func112, Try.ntmps112
  go_wp2_with (first
    | (apply wpList_boxR vb; rfl; rfl; rfl; intro ga w1 hga1 hga2 hra hb1)
    | (apply wpList_allocR (w := w1) _ _ zinfo_a16; rfl; rfl; intro gz w2 hgz1 hgz2 hrz hb2)
    | (apply wpList_allocR (w := w2) _ _ zinfo_a16; rfl; rfl; intro go w3 hgo1 hgo2 hro hb3))
  have hra3 := (hra.next hb2).next hb3
  have hrz3 := hrz.next hb3
  have hwb : Below w.heap.size w w3 := hb1.trans ((hb2.mono hb1.size).trans (hb3.mono (Nat.le_trans hb1.size hb2.size)))
  have hs1 := hb1.size
  have hs2 := hb2.size
  rw [hvb, cells_blk] at hra3
  rw [zero16] at hrz3 hro
  rw [← colP_zero m b] at hro
  have hgg : ga ≠ gz ∧ ga ≠ go ∧ gz ≠ go ∧ w.heap.size ≤ ga ∧ w.heap.size ≤ gz ∧ w.heap.size ≤ go := ⟨by omega, by omega, by omega, by omega, by omega, by omega⟩
  obtain ⟨n1, n2, n3, b1, b2, b3⟩ := hgg
  have HLB := Lib.hid hlb
  clear hra hrz hb1 hb2 hb3 hs1 hs2 hga1 hga2 hgz1 hgz2 hgo1 hgo2 hvb hlb
  go_loopw [8] (fun i wr => ∃ n : Nat, n ≤ 4 ∧ i = .int .i64 n ∧ Row wr go 49 (bv (colP m b n)).toArray ∧ Row wr ga 49 (bv b).toArray ∧ Row wr gz 49 (bv (List.replicate 16 0)).toArray ∧ Below w.heap.size w wr) (fun i _ => 4 - (intOf i).toNat)
  case atStart => exact ⟨0, by omega, rfl, hro, hra3, hrz3, hwb⟩
  case round =>
    obtain ⟨n, hn, rfl, hfk, hak, hzk, hwk⟩ := hrel
    clear hro hra3 hrz3 hwb
    by_cases hlt : n < 4
    · obtain ⟨col, hcol⟩ : ∃ col, col = (b.drop (4 * n)).take 4 := ⟨_, rfl⟩
      have hcl : col.length = 4 := by rw [hcol, List.length_take, List.length_drop, HLB.out]; omega
      have hcb : Bytes col := by rw [hcol]; exact (hb.drop _).take _
      have hcc : ∀ i x, (bv col)[i]? = some x → wr.cell? ((⟨ga, 4 * n, none⟩ : Addr).add i) = some x := by
        intro i x hx
        rw [Addr.add_lit]
        refine hak.cell ?_
        rw [List.getElem?_toArray]
        rw [hcol, ← bv_take, ← bv_drop, List.getElem?_take] at hx
        split at hx
        · rw [List.getElem?_drop] at hx; exact hx
        · cases hx
      have hnx := colP_next m b n hlt
      rw [← hcol] at hnx
      have HNX := Lib.hid hnx
      have C1 : ∀ w, Calls Try.prog F #[.agg (bv col).toArray] w (RetB (blk (mixC m col)) w) := fun w => HF.out col w hcb hcl
      have hyl : (bv (mixC m col)).length = 4 := by rw [bv_length, mixC_length]
      obtain ⟨ys, hys⟩ : ∃ ys, ys = mixC m col := ⟨_, rfl⟩
      rw [← hys] at C1 hyl
      have HYS := Lib.hid hys
      have HC1 := Lib.hid C1
      have hbs := hwk.size
      have hcl' : (bv col).length = 4 := by rw [bv_length, hcl]
      clear hcol hnx C1 hys
      go_wp2_with (first
        | (apply wpList_cutArrL (4 * n) (4 * n + 4) (4 * n + 4); rfl; rfl; exact Try.underlying49; exact size_u8; rfl; exact .inr ⟨_, _, rfl, by omega⟩; exact .inr ⟨_, _, rfl, by omega⟩; exact .inr ⟨_, _, rfl, by omega, by omega, by omega⟩; omega; omega; omega)
        | (apply wpList_arrL; rfl; rfl; exact Try.underlying132; rfl; omega)
        | (refine wpList_loadArr (by rfl) rfl Try.underlying132 size_a4 rfl (bv col) hcl' hcc ?_)
        | (refine (HC1.out _).mono ?_; rintro e w3 ⟨rfl, hb3⟩)
        | (apply wpList_allocR _ _ zinfo_a4; rfl; rfl; intro gt w4 hgt1 hgt2 hrt hb4; rw [zero4] at hrt)
        | (apply wpList_storeRow hrt (bv ys).toArray; rfl; rfl; rfl; rfl; (rw [List.size_toArray, hyl]; exact size_a4); (rw [List.size_toArray, List.size_toArray, hyl, bv_length, List.length_replicate]); exact bv_all ys; intro w5 hw5 hr5 hs5))
      have hgo : go ≠ gt := fun h => by have := hfk.lt; have := hb3.size; omega
      have hga : ga ≠ gt := fun h => by have := hak.lt; have := hb3.size; omega
      have hgz : gz ≠ gt := fun h => by have := hzk.lt; have := hb3.size; omega
      have hgt0 : w.heap.size ≤ gt := by have := hb3.size; omega
      have hf5 : Row w5.drew go 49 (bv (colP m b n)).toArray := by rw [hw5]; exact (heap_setRow_other _ _ _ _ hgo).trans ((hfk.next hb3).next hb4)
      have ha5 : Row w5.drew ga 49 (bv b).toArray := by rw [hw5]; exact (heap_setRow_other _ _ _ _ hga).trans ((hak.next hb3).next hb4)
      have hz5 : Row w5.drew gz 49 (bv (List.replicate 16 0)).toArray := by rw [hw5]; exact (heap_setRow_other _ _ _ _ hgz).trans ((hzk.next hb3).next hb4)
      have hbb5 : Below w.heap.size w w5.drew := by
        rw [hw5]
        exact ((hwk.trans ((hb3.mono hbs).trans (hb4.mono (by have := hb3.size; omega)))).trans (below_row _ hgt0)).drew
      have hr5' : Row w5.drew gt 132 (bv ys).toArray := hr5
      clear hfk hak hzk hwk hb3 hb4 hrt hw5 hr5 hcc hs5
      refine wp_region_still_tail 4 (by kernel_rfl) (by kernel_rfl) ?_
      simp only [List.take_succ_cons, List.take_zero, List.drop_succ_cons, List.drop_zero]
      still_step
      still_step
      apply wpStill_cutArr (4 * n) 16 16
      · rfl
      · rfl
      · exact Try.underlying49
      · exact size_u8
      · rfl
      · exact .inr ⟨_, _, rfl, by rw [IntWalk.i64_in _ (by omega)]; omega⟩
      · exact .inl ⟨rfl, rfl, rfl⟩
      · exact .inl ⟨rfl, rfl⟩
      · omega
      · omega
      · omega
      apply wpStill_cutArr 0 4 4
      · rfl
      · rfl
      · exact Try.underlying132
      · exact size_u8
      · rfl
      · exact .inl ⟨rfl, rfl⟩
      · exact .inl ⟨rfl, rfl, rfl⟩
      · exact .inl ⟨rfl, rfl⟩
      · omega
      · omega
      · omega
      refine wpStill_nil ?_
      change wpList _ _ _ _ _ w5.drew
      generalize w5.drew = w6 at *
      have hys4 : RdS (gt + 1) 1 w6 (.slice (some ⟨gt, 0, none⟩) (4 - 0) (4 - 0)) 4 (bv ys) := RdS.of_row hr5' (n := 4) (s := 1) (cap := 4) (by rw [List.size_toArray, hyl]) (Nat.le_refl _)
      apply wpList_copy (by rfl) rfl Try.underlying28 size_u8 rfl hf5 rfl hys4 (bv_oneCell ys) (by omega) (by rw [List.size_toArray, bv_length, colP_length _ _ _ hn]; omega)
      have hnx := HNX.out
      rw [← HYS.out] at hnx
      have heq : ((bv (colP m b n)).toArray.toList.take (4 * n) ++ bv ys ++ (bv (colP m b n)).toArray.toList.drop (4 * n + 4)).toArray = (bv (colP m b (n + 1))).toArray := by
        rw [← hnx, bv_append, bv_append, bv_take, bv_drop]
      rw [heq]
      have hf7 : Row (w6.setRow go (bv (colP m b (n + 1))).toArray) go 49 (bv (colP m b (n + 1))).toArray := heap_setRow_same _ _ _ _ _ hf5
      have ha7 : Row (w6.setRow go (bv (colP m b (n + 1))).toArray) ga 49 (bv b).toArray := (heap_setRow_other _ _ _ _ n2).trans ha5
      have hz7 : Row (w6.setRow go (bv (colP m b (n + 1))).toArray) gz 49 (bv (List.replicate 16 0)).toArray := (heap_setRow_other _ _ _ _ n3).trans hz5
      have hb7 : Below w.heap.size w (w6.setRow go (bv (colP m b (n + 1))).toArray) := hbb5.trans (below_row _ b3)
      simp only [Act.put, List.setIfInBounds_toArray, List.set_cons_zero, List.set_cons_succ]
      generalize w6.setRow go (bv (colP m b (n + 1))).toArray = w7 at *
      clear hf5 ha5 hz5 hbb5 hys4 hr5' heq hnx
      go_wp2_with fail
      go_roundw
      case rel => exact ⟨n + 1, by omega, by go_num, hf7, ha7, hz7, hb7⟩
      case measure => simp [intOf]; omega
    · obtain rfl : n = 4 := by omega
      rw [colP_full] at hfk
      have hyl : (bv (mixL m b)).length = 16 := by rw [bv_length]; exact mixN_length m b 4
      generalize mixL m b = ys at *
      go_wp2_with (first
        | (apply wpList_loadRow hfk hyl Try.underlying49 size_a16; rfl; rfl; rfl)
        | (apply wpList_storeRow hzk (bv ys).toArray; rfl; rfl; rfl; rfl; (rw [List.size_toArray, hyl]; exact size_a16); (rw [List.size_toArray, List.size_toArray, hyl, bv_length, List.length_replicate]); exact bv_all ys; intro w5 hw5 hr5 hs5))
      refine ret_row rfl gz _ (bv ys).toArray (0, 0) _ rfl hr5 rfl Try.underlying49 rfl (by rw [List.size_toArray, hyl]; exact size_a16) ?_
      rw [hw5]
      exact ⟨rfl, hwk.trans (below_row _ b2)⟩
end Go.Proofs.Ytfinekmegiengaa
/- The walks of layer 7: Encrypt, Decrypt, Shift, Unshift. -/
namespace Go.Proofs.Ytfinekmegiengaa
open Go.RowKit Nep
set_option maxRecDepth 100000
set_option linter.unusedVariables false
set_option linter.unusedSimpArgs false
set_option maxHeartbeats 1000000

theorem right_nil (v : Value) (w : World) : Calls Try.prog 108 #[.pointer none, v] w (RetP (.bool false) w) := by
  go_enter Try.func108, Try.ntmps108
  go_wp2
  go_ret
  exact ⟨rfl, rfl⟩

theorem right_calls (B : Nat) (p v : Value) (rk l : List Nat) (w : World) (hk : KeyAt B w p rk) (hr : RdB w.heap.size w v l) : Calls Try.prog 108 #[p, v] w (RetP (.bool (decide (l.length = 16))) w) := by
  obtain ⟨kb, sv, rfl, hkb, hc, hs⟩ := hk
  have h16 : ((l.length : Int) == 16) = decide (l.length = 16) := by
    by_cases h : l.length = 16
    · rw [h]; rfl
    · rw [decide_eq_false h]; simp; omega
  go_enter Try.func108, Try.ntmps108
  go_wp2_with (first
    | (apply wpList_len (t := 51) (by rfl) rfl Try.underlying51 rfl hs)
    | (refine wpList_lenB hr rfl rfl rfl ?_))
  go_ret
  exact ⟨rfl, rfl⟩

theorem shift_short (v : Value) (l : List Nat) (n : Int) (w : World) (hr : RdB w.heap.size w v l) (h : l.length ≠ 16) : Calls Try.prog 117 #[v, .int .i64 n] w (RetE 2 w) := by
  have hne : ((l.length : Int) != 16) = true := by simp; omega
  go_enter Try.func117, Try.ntmps117
  go_wp2_with (first | (refine wpList_lenB hr rfl rfl rfl ?_))
  go_ret2
  exact ⟨rfl, Below.refl _ _⟩

theorem shift_calls' (v : Value) (l : List Nat) (n : Nat) {N : Int} (hN : N = n) (hn : n ≤ 3) (w : World) (hb : Bytes l) (hr : RdB w.heap.size w v l) (h : l.length = 16) : Calls Try.prog 117 #[v, .int .i64 N] w (RetSE (shL l n) w) := by
  subst hN
  have hne : ((l.length : Int) != 16) = false := by rw [h]; rfl
  have C1 : ∀ w, Calls Try.prog 110 #[.agg (bv l).toArray, .int .i64 (n : Int)] w (RetB (blk (shL l n)) w) := fun w => shifted_calls l hb h n rfl hn w
  have hyl : (shL l n).length = 16 := shL_length l n
  generalize shL l n = ys at *
  have HC1 := Lib.hid C1
  clear C1
  have hyl' : (bv ys).length = 16 := by rw [bv_length, hyl]
  have hll : (bv l).length = 16 := by rw [bv_length, h]
  obtain ⟨ad, c, hv, _, hB, hcell⟩ := RdS.addr hr (by intro h0; rw [h0] at hll; simp at hll)
  rw [h] at hv
  subst hv
  go_enter Try.func117, Try.ntmps117
  go_wp2_with (first
    | (refine wpList_lenB hr rfl rfl rfl ?_)
    | (apply wpList_arrL; rfl; rfl; exact Try.underlying49; rfl; omega)
    | (refine wpList_loadArr (by rfl) rfl Try.underlying49 size_a16 rfl (bv l) hll hcell ?_)
    | (go_at_call 110; refine (HC1.out _).mono ?_; rintro e w1 ⟨rfl, hb1⟩)
    | (apply wpList_allocR _ _ zinfo_a16; rfl; rfl; intro gt w2 hgt1 hgt2 hrt hb2; rw [zero16] at hrt)
    | (apply wpList_storeRow hrt (bv ys).toArray; rfl; rfl; rfl; rfl; (rw [List.size_toArray, hyl']; exact size_a16); (rw [List.size_toArray, List.size_toArray, hyl', bv_length, List.length_replicate]); exact bv_all ys; intro w3 hw3 hr3 hs3)
    | (apply wpList_buildB []; exact of_decide_eq_true rfl; rfl; rfl; rfl; intro gb w4 hgb1 hgb2 hob hb4)
    | (apply wpList_cutArrL 0 16 16; rfl; rfl; exact Try.underlying49; exact size_u8; rfl; exact .inl ⟨rfl, rfl⟩; exact .inl ⟨rfl, rfl, rfl⟩; exact .inl ⟨rfl, rfl⟩; omega; omega; omega)
    | (at_builtin; apply wpList_appendB hob (rdb_of_row (hr3.next hb4) hyl); rfl; rfl; rfl; rfl; (rw [hyl]; exact of_decide_eq_true rfl); (have := hb4.size; omega); intro v5 w5 ho5 hg5))
  go_ret2
  have s1 := hb1.size
  have s2 := hb2.size
  have s4 := hb4.size
  have hb3 : Below w.heap.size w w3 := by
    rw [hw3]
    exact (hb1.trans (hb2.mono s1)).trans (below_row _ (by omega))
  have s3 := hb3.size
  exact ⟨v5, rfl, own_base ho5 s3, (hb3.trans (hb4.mono s3)).trans (below_own hg5 hob s3 (by omega))⟩

theorem shift1_short (v : Value) (l : List Nat) (w : World) (hr : RdB w.heap.size w v l) (h : l.length ≠ 16) : Calls Try.prog 45 #[v] w (RetE 2 w) := by
  go_enter Try.func45, Try.ntmps45
  go_wp2_with (first | (go_at_call 117; refine (shift_short _ _ _ _ hr h).mono ?_; rintro e w1 ⟨rfl, hb1⟩))
  go_ret2
  exact ⟨rfl, hb1⟩
theorem shift3_short (v : Value) (l : List Nat) (w : World) (hr : RdB w.heap.size w v l) (h : l.length ≠ 16) : Calls Try.prog 46 #[v] w (RetE 2 w) := by
  go_enter Try.func46, Try.ntmps46
  go_wp2_with (first | (go_at_call 117; refine (shift_short _ _ _ _ hr h).mono ?_; rintro e w1 ⟨rfl, hb1⟩))
  go_ret2
  exact ⟨rfl, hb1⟩
theorem shift1_calls (v : Value) (l : List Nat) (w : World) (hb : Bytes l) (hr : RdB w.heap.size w v l) (h : l.length = 16) : Calls Try.prog 45 #[v] w (RetSE (shL l 1) w) := by
  have C := Lib.hid (fun w hr => shift_calls' v l 1 (N := 1) rfl (by omega) w hb hr h)
  generalize shL l 1 = ys at *
  go_enter Try.func45, Try.ntmps45
  go_wp2_with (first | (go_at_call 117; refine (C.out _ hr).mono ?_; rintro e w1 ⟨v1, rfl, ho1, hb1⟩))
  go_ret2
  exact ⟨v1, rfl, ho1, hb1⟩
theorem shift3_calls (v : Value) (l : List Nat) (w : World) (hb : Bytes l) (hr : RdB w.heap.size w v l) (h : l.length = 16) : Calls Try.prog 46 #[v] w (RetSE (shL l 3) w) := by
  have C := Lib.hid (fun w hr => shift_calls' v l 3 (N := 3) rfl (by omega) w hb hr h)
  generalize shL l 3 = ys at *
  go_enter Try.func46, Try.ntmps46
  go_wp2_with (first | (go_at_call 117; refine (C.out _ hr).mono ?_; rintro e w1 ⟨v1, rfl, ho1, hb1⟩))
  go_ret2
  exact ⟨v1, rfl, ho1, hb1⟩
end Go.Proofs.Ytfinekmegiengaa
/- The walks of layer 7: Encrypt. -/
namespace Go.Proofs.Ytfinekmegiengaa
open Go.RowKit Nep
set_option maxRecDepth 100000
set_option linter.unusedVariables false
set_option linter.unusedSimpArgs false
set_option maxHeartbeats 1000000

theorem block_add (ad : Addr) (i : Nat) : (ad.add i).block = ad.block := by unfold Addr.add; split <;> rfl
/-- a key's cells: of its variable, of its rounds -/
structure KeyC (w : World) (kb : Nat) (ad : Addr) (c : Nat) (rk : List Nat) : Prop where
  top : w.cell? ⟨kb, 0, none⟩ = some (.slice (some ad) 15 c)
  cells : ∀ i x, (bv rk)[i]? = some x → w.cell? (ad.add i) = some x
  kb_lt : kb < w.heap.size
  ad_lt : ad.block < w.heap.size
theorem KeyC.next {w w' : World} {kb : Nat} {ad : Addr} {c : Nat} {rk : List Nat} (h : KeyC w kb ad c rk) (hb : Below w.heap.size w w') : KeyC w' kb ad c rk :=
  ⟨(hb.cell (by exact h.kb_lt)).trans h.top, fun i x hx => (hb.cell (by rw [block_add]; exact h.ad_lt)).trans (h.cells i x hx), Nat.lt_of_lt_of_le h.kb_lt hb.size, Nat.lt_of_lt_of_le h.ad_lt hb.size⟩
theorem KeyAt.cells {w : World} {p : Value} {rk : List Nat} (h : KeyAt w.heap.size w p rk) (hl : rk.length = 240) : ∃ kb ad c, p = .pointer (some ⟨kb, 0, none⟩) ∧ KeyC w kb ad c rk := by
  obtain ⟨kb, sv, rfl, hk, hc, hs⟩ := h
  obtain ⟨ad, c, rfl, _, hB, hr⟩ := hs.addr (by intro h0; have := bv_length rk; rw [h0] at this; simp at this; omega)
  exact ⟨kb, ad, c, rfl, hc, hr, hk, hB⟩
/-- the cells of a round's key -/
theorem KeyC.round {w : World} {kb : Nat} {ad : Addr} {c : Nat} {rk : List Nat} (h : KeyC w kb ad c rk) (r : Nat) : ∀ i x, (bv (rkF rk r))[i]? = some x → w.cell? ((ad.add (r * 16)).add i) = some x := by
  intro i x hx
  rw [Addr.add_add]
  refine h.cells _ _ ?_
  unfold rkF at hx
  rw [← bv_take, ← bv_drop, List.getElem?_take] at hx
  split at hx
  · rw [List.getElem?_drop, Nat.mul_comm 16 r] at hx
    exact hx
  · cases hx

theorem callFunc_mix (args : Array Value) (w : World) : (callFunc 113 args).run Try.prog w = .ok (.enter 113 args) w := by rfl

theorem encrypt_short (B : Nat) (p v : Value) (rk l : List Nat) (w : World) (hk : KeyAt B w p rk) (hr : RdB w.heap.size w v l) (h : l.length ≠ 16) : Calls Try.prog 42 #[p, v] w (RetE 2 w) := by
  have C := right_calls B p v rk l w hk hr
  rw [decide_eq_false h] at C
  go_enter Try.func42, Try.ntmps42
  go_wp2_with (first | (go_at_call 108; refine C.mono ?_; rintro e w1 ⟨rfl, rfl⟩))
  go_ret2
  exact ⟨rfl, Below.refl _ _⟩
theorem encrypt_nil (v : Value) (w : World) : Calls Try.prog 42 #[.pointer none, v] w (RetE 2 w) := by
  go_enter Try.func42, Try.ntmps42
  go_wp2_with (first | (go_at_call 108; refine (right_nil _ _).mono ?_; rintro e w1 ⟨rfl, rfl⟩))
  go_ret2
  exact ⟨rfl, Below.refl _ _⟩

theorem encrypt_calls (p v : Value) (rk l : List Nat) (w : World) (hk : KeyAt w.heap.size w p rk) (hrl : rk.length = 240) (hrb : Bytes rk) (hr : RdB w.heap.size w v l) (hb : Bytes l) (h : l.length = 16) :
    Calls Try.prog 42 #[p, v] w (RetSE (encF rk l 14) w) := by
  have C0 := right_calls _ p v rk l w hk hr
  rw [decide_eq_true h] at C0
  obtain ⟨kb, ad, ck, rfl, hkc⟩ := hk.cells hrl
  clear hk
  have hll : (bv l).length = 16 := by rw [bv_length, h]
  obtain ⟨al, c, hv, _, hB, hcell⟩ := RdS.addr hr (by intro h0; rw [h0] at hll; simp at hll)
  rw [h] at hv
  subst hv
  obtain ⟨y0, hy0⟩ : ∃ y0, y0 = encF rk l 0 := ⟨_, rfl⟩
  go_enter Try.func42, Try.ntmps42
  go_upto_region 3 with (first | (go_at_call 108; refine C0.mono ?_; rintro e w1 ⟨rfl, rfl⟩))
  go_cut [6] from 8 to 46 (fun p6 wx => ∃ g, p6 = .pointer (some ⟨g, 0, none⟩) ∧ Row wx g 49 (bv y0).toArray ∧ w.heap.size ≤ g ∧ Below w.heap.size w wx)
  case first =>
    have hS0 : Below w.heap.size w w.drew := (Below.refl _ _).drew
    have C1 : ∀ w, Calls Try.prog 109 #[.agg (bv l).toArray, .agg (bv (rkF rk 0)).toArray] w (RetB (blk y0) w) := fun w => hy0 ▸ added_calls l (rkF rk 0) hb (rkF_bytes rk hrb 0) h (rkF_length rk hrl 0 (by omega)) w
    have HC1 := Lib.hid C1
    have hrk0 : (bv (rkF rk 0)).length = 16 := by rw [bv_length, rkF_length rk hrl 0 (by omega)]
    have hy16 : (bv y0).length = 16 := by rw [bv_length, hy0, (encF_blk rk l hrl hrb h hb 0 (by omega)).1]
    clear C1 C0
    refine wp_region_noPanic ?_
    refine wp_region_heldN (S := fun w' => Below w.heap.size w w') 12 rfl (by kernel_rfl) ?_
    (apply takeS (i := 0) hS0 rfl rfl (by kernel_rfl) (by kernel_rfl) (by kernel_rfl) (fun _ _ _ h => h) (by rfl); focus (intro w' hs; have hs2 := (hkc.next hs).top; go_simp; try with_reducible rfl))
    (try simp only [Act.put, List.setIfInBounds_toArray, List.set_cons_zero, List.set_cons_succ])
    (apply takeY (i := 1) hS0 rfl rfl (by kernel_rfl) (by kernel_rfl) (by kernel_rfl) (fun _ _ _ h => h); focus (exact yieldsIf_arr (ty := 49) (by rfl) rfl Try.underlying49 rfl (Nat.le_refl _)))
    (try simp only [Act.put, List.setIfInBounds_toArray, List.set_cons_zero, List.set_cons_succ])
    (apply takeY (i := 2) hS0 rfl rfl (by kernel_rfl) (by kernel_rfl) (by kernel_rfl) (fun _ _ _ h => h); focus (exact yieldsIf_loadArr (ty := 49) (bv l) (by rfl) rfl Try.underlying49 size_a16 rfl hll (fun w' hw i x hx => (hw.cell (by rw [block_add]; exact hB)).trans (hcell i x hx))))
    (try simp only [Act.put, List.setIfInBounds_toArray, List.set_cons_zero, List.set_cons_succ])
    (apply takeS (i := 3) hS0 rfl rfl (by kernel_rfl) (by kernel_rfl) (by kernel_rfl) (fun _ _ _ h => h) (by rfl); focus (intro w' hs; have hs2 := (hkc.next hs).top; go_simp; try with_reducible rfl))
    (try simp only [Act.put, List.setIfInBounds_toArray, List.set_cons_zero, List.set_cons_succ])
    (apply takeS (i := 4) hS0 rfl rfl (by kernel_rfl) (by kernel_rfl) (by kernel_rfl) (fun _ _ _ h => h) (by rfl); focus (intro w' hs; have hs2 := (hkc.next hs).top; go_simp; try with_reducible rfl))
    (try simp only [Act.put, List.setIfInBounds_toArray, List.set_cons_zero, List.set_cons_succ])
    (apply takeS (i := 5) hS0 rfl rfl (by kernel_rfl) (by kernel_rfl) (by kernel_rfl) (fun _ _ _ h => h) (by rfl); focus (intro w' hs; have hs2 := (hkc.next hs).top; go_simp; try with_reducible rfl))
    (try simp only [Act.put, List.setIfInBounds_toArray, List.set_cons_zero, List.set_cons_succ])
    (apply takeS (i := 6) hS0 rfl rfl (by kernel_rfl) (by kernel_rfl) (by kernel_rfl) (fun _ _ _ h => h) (by rfl); focus (intro w' hs; have hs2 := (hkc.next hs).top; go_simp; try with_reducible rfl))
    (try simp only [Act.put, List.setIfInBounds_toArray, List.set_cons_zero, List.set_cons_succ])
    (apply takeY (i := 7) hS0 rfl rfl (by kernel_rfl) (by kernel_rfl) (by kernel_rfl) (fun _ _ _ h => h); focus (exact yieldsIf_indexS (i := 0) (by rfl) rfl Try.underlying51 size_a16 rfl rfl rfl (by omega)))
    (try simp only [Act.put, List.setIfInBounds_toArray, List.set_cons_zero, List.set_cons_succ])
    (apply takeY (i := 8) hS0 rfl rfl (by kernel_rfl) (by kernel_rfl) (by kernel_rfl) (fun _ _ _ h => h); focus (exact yieldsIf_loadArr (ty := 49) (bv (rkF rk 0)) (by rfl) rfl Try.underlying49 size_a16 rfl hrk0 (fun w' hw => (hkc.next hw).round 0)))
    (try simp only [Act.put, List.setIfInBounds_toArray, List.set_cons_zero, List.set_cons_succ])
    have hds : w.heap.size ≤ w.drew.heap.size := hS0.size
    refine twoS (i := 9) (j := 10) (by kernel_rfl) rfl rfl (by rfl) rfl rfl (by rfl) (fun K hK => ?_) (fun K hK => ?_)
    · go_simp
      refine (HC1.out _).mono ?_
      rintro e w1 ⟨rfl, hb1⟩
      have hS1 := hS0.trans (hb1.mono hds)
      refine hK.out _ _ hS1 (fun _ => ?_)
      clear hK K
      (try simp only [Act.put, List.setIfInBounds_toArray, List.set_cons_zero, List.set_cons_succ])
      refine oneS (i := 10) rfl rfl (by kernel_rfl) (by rfl) (fun K hK => ?_)
      apply step_allocR _ _ zinfo_a16 rfl rfl
      intro g w2 hg1 hg2 hrow hb2
      rw [zero16] at hrow
      have hS2 := hS1.trans (hb2.mono hS1.size)
      refine hK.out _ _ hS2 (fun _ => ?_)
      clear hK K
      (try simp only [Act.put, List.setIfInBounds_toArray, List.set_cons_zero, List.set_cons_succ])
      refine oneN (i := 11) rfl rfl (by kernel_rfl) (by rfl) (fun K hK => ?_)
      apply step_storeRow hrow (bv y0).toArray rfl rfl rfl rfl (by rw [List.size_toArray, hy16]; exact size_a16) (by rw [List.size_toArray, List.size_toArray, hy16, bv_length, List.length_replicate]) (bv_all y0)
      intro w3 hw3 hr3 hs3
      have hgw : w.heap.size ≤ g := Nat.le_trans hS1.size hg1
      have hS3 : Below w.heap.size w w3 := by rw [hw3]; exact hS2.trans (below_row _ hgw)
      refine hK.out _ _ hS3 (fun _ => ?_)
      clear hK K
      refine wpAnyH_done (by kernel_rfl) ?_ _
      refine NoPanic.normal ?_
      simp only [Act.put]
      go_wp2_with fail
      go_meet
      case rel => exact ⟨g, rfl, hr3, hgw, hS3⟩
    · apply step_allocR _ _ zinfo_a16 rfl rfl
      intro g w1 hg1 hg2 hrow hb1
      rw [zero16] at hrow
      have hS1 := hS0.trans (hb1.mono hds)
      refine hK.out _ _ hS1 (fun _ => ?_)
      clear hK K
      (try simp only [Act.put, List.setIfInBounds_toArray, List.set_cons_zero, List.set_cons_succ])
      refine oneS (i := 9) rfl rfl (by kernel_rfl) (by rfl) (fun K hK => ?_)
      go_simp
      refine (HC1.out _).mono ?_
      rintro e w2 ⟨rfl, hb2⟩
      have hS2 := hS1.trans (hb2.mono hS1.size)
      have hrow2 := hrow.next hb2
      refine hK.out _ _ hS2 (fun _ => ?_)
      clear hK K
      (try simp only [Act.put, List.setIfInBounds_toArray, List.set_cons_zero, List.set_cons_succ])
      refine oneN (i := 11) rfl rfl (by kernel_rfl) (by rfl) (fun K hK => ?_)
      apply step_storeRow hrow2 (bv y0).toArray rfl rfl rfl rfl (by rw [List.size_toArray, hy16]; exact size_a16) (by rw [List.size_toArray, List.size_toArray, hy16, bv_length, List.length_replicate]) (bv_all y0)
      intro w3 hw3 hr3 hs3
      have hgw : w.heap.size ≤ g := Nat.le_trans hds hg1
      have hS3 : Below w.heap.size w w3 := by rw [hw3]; exact hS2.trans (below_row _ hgw)
      refine hK.out _ _ hS3 (fun _ => ?_)
      clear hK K
      refine wpAnyH_done (by kernel_rfl) ?_ _
      refine NoPanic.normal ?_
      simp only [Act.put]
      go_wp2_with fail
      go_meet
      case rel => exact ⟨g, rfl, hr3, hgw, hS3⟩
  case rest =>
    obtain ⟨g, rfl, hrow, hgw, hbw⟩ := hcut
    clear hr hcell C0 hll hB
    go_wp2_with fail
    go_loopw [7] (fun i wr => ∃ n : Nat, 1 ≤ n ∧ n ≤ 15 ∧ i = .int .i64 n ∧ Row wr g 49 (bv (encF rk l (n - 1))).toArray ∧ Below w.heap.size w wr) (fun i _ => 15 - (intOf i).toNat)
    case atStart => exact ⟨1, by omega, by omega, rfl, by rw [show 1 - 1 = 0 from rfl, ← hy0]; exact hrow, hbw⟩
    case round =>
      obtain ⟨n, hn1, hn15, rfl, hrn, hbn⟩ := hrel
      clear hrow hbw
      by_cases hlt : n ≤ 14
      · obtain ⟨x, hx⟩ : ∃ x, x = encF rk l (n - 1) := ⟨_, rfl⟩
        have hxx := encF_blk rk l hrl hrb h hb (n - 1) (by omega)
        rw [← hx] at hrn hxx
        obtain ⟨hxl, hxb⟩ := hxx
        have hxl' : (bv x).length = 16 := by rw [bv_length, hxl]
        obtain ⟨s1, hs1⟩ : ∃ s1, s1 = x.map sb := ⟨_, rfl⟩
        have hl1 : s1.length = 16 := by rw [hs1, List.length_map, hxl]
        have hb1s : Bytes s1 := by rw [hs1]; exact map_sb_bytes x
        obtain ⟨s2, hs2⟩ : ∃ s2, s2 = shL s1 1 := ⟨_, rfl⟩
        have hl2 : s2.length = 16 := by rw [hs2, shL_length]
        have hb2s : Bytes s2 := by rw [hs2]; exact shL_bytes _ hb1s _
        have hl2' : (bv s2).length = 16 := by rw [bv_length, hl2]
        have CP : RowKit.Hid (∀ w, Calls Try.prog 111 #[.agg (bv x).toArray, .func (.func 29) #[] #[]] w (RetB (blk s1) w)) := Lib.hid (fun w => hs1 ▸ put_sub_calls x hxb hxl w)
        have CS : RowKit.Hid (∀ w, Calls Try.prog 110 #[blk s1, .int .i64 1] w (RetB (blk s2) w)) := Lib.hid (fun w => hs2 ▸ shifted_calls s1 hb1s hl1 1 (N := 1) rfl (by omega) w)
        have CM : RowKit.Hid (∀ w, Calls Try.prog 112 #[.agg (bv s2).toArray, .func (.func 113) #[] #[]] w (RetB (blk (mixL [2, 3, 1, 1] s2)) w)) := Lib.hid (fun w => columns_calls s2 [2, 3, 1, 1] hb2s hl2 _ callFunc_mix (fun c w hc hl => mix_calls c hc hl w) w)
        have hkl : (bv (rkF rk n)).length = 16 := by rw [bv_length, rkF_length rk hrl n (by omega)]
        have hbs := hbn.size
        by_cases h14 : n < 14
        · obtain ⟨z, hz⟩ : ∃ z, z = mixL [2, 3, 1, 1] s2 := ⟨_, rfl⟩
          have hzl : z.length = 16 := by rw [hz]; exact mixL_length _ _
          have hzb : Bytes z := by rw [hz]; exact mixL_bytes _ _
          have hye : encF rk l n = xorL z (rkF rk n) := by
            obtain ⟨m, rfl⟩ : ∃ m, n = m + 1 := ⟨n - 1, by omega⟩
            rw [hz, hs2, hs1, hx]
            simp only [encF, Nat.add_sub_cancel]
            rw [if_pos (by omega)]
          obtain ⟨ys, hys⟩ : ∃ ys, ys = encF rk l n := ⟨_, rfl⟩
          have hyl' : (bv ys).length = 16 := by rw [bv_length, hys, (encF_blk rk l hrl hrb h hb n (by omega)).1]
          have HY := Lib.hid hys
          have CA : RowKit.Hid (∀ w, Calls Try.prog 109 #[.agg (bv z).toArray, .agg (bv (rkF rk n)).toArray] w (RetB (blk ys) w)) := Lib.hid (fun w => by rw [hys, hye]; exact added_calls z (rkF rk n) hzb (rkF_bytes rk hrb n) hzl (rkF_length rk hrl n (by omega)) w)
          have hzl' : (bv z).length = 16 := by rw [bv_length, hzl]
          rw [← hz] at CM
          clear hz hs2 hs1 hx hye hys
          go_wp2_with (first
            | (apply wpList_loadRow hrn hxl' Try.underlying49 size_a16; rfl; rfl; rfl)
            | (go_at_call 111; refine (CP.out _).mono ?_; rintro e w1 ⟨rfl, hb1⟩)
            | (go_at_call 110; refine (CS.out _).mono ?_; rintro e w2 ⟨rfl, hb2⟩; have hr2 := (hrn.next hb1).next hb2)
            | (apply wpList_storeRow hr2 (bv s2).toArray; rfl; rfl; rfl; rfl; (rw [List.size_toArray, hl2']; exact size_a16); (rw [List.size_toArray, List.size_toArray, hl2', hxl']); exact bv_all s2; intro w3 hw3 hr3 hs3; have HW3 := Lib.hid hw3; clear hw3 hs3)
            | (apply wpList_loadRow hr3 hl2' Try.underlying49 size_a16; rfl; rfl; rfl)
            | (go_at_call 112; refine (CM.out _).mono ?_; rintro e w4 ⟨rfl, hb4⟩; have hr4 := hr3.next hb4)
            | (apply wpList_storeRow hr4 (bv z).toArray; rfl; rfl; rfl; rfl; (rw [List.size_toArray, hzl']; exact size_a16); (rw [List.size_toArray, List.size_toArray, hl2', hzl']); exact bv_all z; intro w5 hw5 hr5 hs5; have HW5 := Lib.hid hw5; clear hw5 hs5))
          have hb3 : Below w.heap.size w w3 := by
            rw [HW3.out]
            exact (hbn.trans ((hb1.mono hbs).trans (hb2.mono (Nat.le_trans hbs hb1.size)))).trans (below_row _ hgw)
          have hb5 : Below w.heap.size w w5 := by
            rw [HW5.out]
            exact (hb3.trans (hb4.mono hb3.size)).trans (below_row _ hgw)
          clear hrn hbn hb1 hb2 hr2 HW3 hr3 hb4 hr4 HW5 hb3 hbs CM CP CS
          have hkq := hkc.next (hb5).drew
          have hcz : ∀ i x, (bv z)[i]? = some x → w5.drew.cell? ((⟨g, 0, none⟩ : Addr).add i) = some x := fun i x hx => by rw [Addr.add_lit, Nat.zero_add]; exact Row.cell (w := w5.drew) (g := g) (c := (bv z).toArray) (hr5) (by rwa [List.getElem?_toArray])
          have htop := hkq.top
          have hrqd : Row w5.drew g 49 (bv z).toArray := hr5
          have hbqd := (hb5).drew
          refine wp_region_still_tail 8 (by kernel_rfl) (by kernel_rfl) ?_
          simp only [List.take_succ_cons, List.take_zero, List.drop_succ_cons, List.drop_zero]
          refine wpStill_loadArr (bv z) (by rfl) rfl Try.underlying49 size_a16 rfl hzl' hcz ?_
          (try simp only [Act.put, List.setIfInBounds_toArray, List.set_cons_zero, List.set_cons_succ])
          still_step
          still_step
          still_step
          still_step
          still_step
          refine wpStill_indexS n (by rfl) rfl Try.underlying51 size_a16 rfl rfl rfl (by omega) ?_
          (try simp only [Act.put, List.setIfInBounds_toArray, List.set_cons_zero, List.set_cons_succ])
          refine wpStill_loadArr (bv (rkF rk n)) (by rfl) rfl Try.underlying49 size_a16 rfl hkl (hkq.round n) ?_
          (try simp only [Act.put, List.setIfInBounds_toArray, List.set_cons_zero, List.set_cons_succ])
          refine wpStill_nil ?_
          change wpList _ _ _ _ _ w5.drew
          clear hcz htop hkq
          generalize w5.drew = wd at *
          have hwd := hbqd.size
          go_wp2_with (first
            | (go_at_call 109; refine (CA.out _).mono ?_; rintro e w7 ⟨rfl, hb7⟩; have hr7 := hrqd.next hb7)
            | (apply wpList_storeRow hr7 (bv ys).toArray; rfl; rfl; rfl; rfl; (rw [List.size_toArray, hyl']; exact size_a16); (rw [List.size_toArray, List.size_toArray, hyl', hzl']); exact bv_all ys; intro w8 hw8 hr8 hs8; have HW8 := Lib.hid hw8; clear hw8 hs8))
          have hb8 : Below w.heap.size w w8 := by rw [HW8.out]; exact (hbqd.trans (hb7.mono hwd)).trans (below_row _ hgw)
          go_roundw
          case rel => exact ⟨n + 1, by omega, by omega, by go_num, by rw [Nat.add_sub_cancel, ← HY.out]; exact hr8, hb8⟩
          case measure => simp [intOf]; omega
        · obtain ⟨z, hz⟩ : ∃ z, z = s2 := ⟨_, rfl⟩
          have hzl : z.length = 16 := by rw [hz]; exact hl2
          have hzb : Bytes z := by rw [hz]; exact hb2s
          have hye : encF rk l n = xorL z (rkF rk n) := by
            obtain ⟨m, rfl⟩ : ∃ m, n = m + 1 := ⟨n - 1, by omega⟩
            rw [hz, hs2, hs1, hx]
            simp only [encF, Nat.add_sub_cancel]
            rw [if_neg (by omega)]
          obtain ⟨ys, hys⟩ : ∃ ys, ys = encF rk l n := ⟨_, rfl⟩
          have hyl' : (bv ys).length = 16 := by rw [bv_length, hys, (encF_blk rk l hrl hrb h hb n (by omega)).1]
          have HY := Lib.hid hys
          have CA : RowKit.Hid (∀ w, Calls Try.prog 109 #[.agg (bv z).toArray, .agg (bv (rkF rk n)).toArray] w (RetB (blk ys) w)) := Lib.hid (fun w => by rw [hys, hye]; exact added_calls z (rkF rk n) hzb (rkF_bytes rk hrb n) hzl (rkF_length rk hrl n (by omega)) w)
          have hzl' : (bv z).length = 16 := by rw [bv_length, hzl]
          clear CM
          clear hs2 hs1 hx hye hys
          go_wp2_with (first
            | (apply wpList_loadRow hrn hxl' Try.underlying49 size_a16; rfl; rfl; rfl)
            | (go_at_call 111; refine (CP.out _).mono ?_; rintro e w1 ⟨rfl, hb1⟩)
            | (go_at_call 110; refine (CS.out _).mono ?_; rintro e w2 ⟨rfl, hb2⟩; have hr2 := (hrn.next hb1).next hb2)
            | (apply wpList_storeRow hr2 (bv s2).toArray; rfl; rfl; rfl; rfl; (rw [List.size_toArray, hl2']; exact size_a16); (rw [List.size_toArray, List.size_toArray, hl2', hxl']); exact bv_all s2; intro w3 hw3 hr3 hs3; have HW3 := Lib.hid hw3; clear hw3 hs3))
          have hb3 : Below w.heap.size w w3 := by
            rw [HW3.out]
            exact (hbn.trans ((hb1.mono hbs).trans (hb2.mono (Nat.le_trans hbs hb1.size)))).trans (below_row _ hgw)
          rw [← hz] at hr3
          clear hrn hbn hb1 hb2 hr2 HW3 hbs CP CS hz
          have hkq := hkc.next (hb3).drew
          have hcz : ∀ i x, (bv z)[i]? = some x → w3.drew.cell? ((⟨g, 0, none⟩ : Addr).add i) = some x := fun i x hx => by rw [Addr.add_lit, Nat.zero_add]; exact Row.cell (w := w3.drew) (g := g) (c := (bv z).toArray) (hr3) (by rwa [List.getElem?_toArray])
          have htop := hkq.top
          have hrqd : Row w3.drew g 49 (bv z).toArray := hr3
          have hbqd := (hb3).drew
          refine wp_region_still_tail 8 (by kernel_rfl) (by kernel_rfl) ?_
          simp only [List.take_succ_cons, List.take_zero, List.drop_succ_cons, List.drop_zero]
          refine wpStill_loadArr (bv z) (by rfl) rfl Try.underlying49 size_a16 rfl hzl' hcz ?_
          (try simp only [Act.put, List.setIfInBounds_toArray, List.set_cons_zero, List.set_cons_succ])
          still_step
          still_step
          still_step
          still_step
          still_step
          refine wpStill_indexS n (by rfl) rfl Try.underlying51 size_a16 rfl rfl rfl (by omega) ?_
          (try simp only [Act.put, List.setIfInBounds_toArray, List.set_cons_zero, List.set_cons_succ])
          refine wpStill_loadArr (bv (rkF rk n)) (by rfl) rfl Try.underlying49 size_a16 rfl hkl (hkq.round n) ?_
          (try simp only [Act.put, List.setIfInBounds_toArray, List.set_cons_zero, List.set_cons_succ])
          refine wpStill_nil ?_
          change wpList _ _ _ _ _ w3.drew
          clear hcz htop hkq
          generalize w3.drew = wd at *
          have hwd := hbqd.size
          go_wp2_with (first
            | (go_at_call 109; refine (CA.out _).mono ?_; rintro e w7 ⟨rfl, hb7⟩; have hr7 := hrqd.next hb7)
            | (apply wpList_storeRow hr7 (bv ys).toArray; rfl; rfl; rfl; rfl; (rw [List.size_toArray, hyl']; exact size_a16); (rw [List.size_toArray, List.size_toArray, hyl', hzl']); exact bv_all ys; intro w8 hw8 hr8 hs8; have HW8 := Lib.hid hw8; clear hw8 hs8))
          have hb8 : Below w.heap.size w w8 := by rw [HW8.out]; exact (hbqd.trans (hb7.mono hwd)).trans (below_row _ hgw)
          go_roundw
          case rel => exact ⟨n + 1, by omega, by omega, by go_num, by rw [Nat.add_sub_cancel, ← HY.out]; exact hr8, hb8⟩
          case measure => simp [intOf]; omega
      · obtain rfl : n = 15 := by omega
        have hyl : (encF rk l 14).length = 16 := (encF_blk rk l hrl hrb h hb 14 (by omega)).1
        rw [show 15 - 1 = 14 from rfl] at hrn
        generalize encF rk l 14 = ys at *
        have hbs := hbn.size
        go_wp2_with (first
          | (apply wpList_buildB []; exact of_decide_eq_true rfl; rfl; rfl; rfl; intro gb w4 hgb1 hgb2 hob hb4)
          | (apply wpList_cutArrL 0 16 16; rfl; rfl; exact Try.underlying49; exact size_u8; rfl; exact .inl ⟨rfl, rfl⟩; exact .inl ⟨rfl, rfl, rfl⟩; exact .inl ⟨rfl, rfl⟩; omega; omega; omega)
          | (at_builtin; apply wpList_appendB hob (rdb_of_row (hrn.next hb4) hyl); rfl; rfl; rfl; rfl; (rw [hyl]; exact of_decide_eq_true rfl); (have := hb4.size; omega); intro v5 w5 ho5 hg5))
        go_ret2
        have s4 := hb4.size
        exact ⟨v5, rfl, own_base ho5 hbs, (hbn.trans (hb4.mono hbs)).trans (below_own hg5 hob hbs (by omega))⟩
end Go.Proofs.Ytfinekmegiengaa
/- The walks of layer 7: Decrypt. -/
namespace Go.Proofs.Ytfinekmegiengaa
open Go.RowKit Nep
set_option maxRecDepth 100000
set_option linter.unusedVariables false
set_option linter.unusedSimpArgs false
set_option maxHeartbeats 1000000

theorem callFunc_unmix (args : Array Value) (w : World) : (callFunc 118 args).run Try.prog w = .ok (.enter 118 args) w := by rfl
theorem callFunc_back (args : Array Value) (w : World) : (callFunc 31 args).run Try.prog w = .ok (.enter 31 args) w := by rfl
theorem put_back_calls (a : List Nat) (ha : Bytes a) (hla : a.length = 16) (w : World) : Calls Try.prog 111 #[blk a, .func (.func 31) #[] #[]] w (RetB (blk (a.map bk)) w) :=
  put_calls a ha hla _ bk callFunc_back (fun x w hx => (back_calls x rfl hx w)) w

theorem decrypt_short (B : Nat) (p v : Value) (rk l : List Nat) (w : World) (hk : KeyAt B w p rk) (hr : RdB w.heap.size w v l) (h : l.length ≠ 16) : Calls Try.prog 48 #[p, v] w (RetE 2 w) := by
  have C := right_calls B p v rk l w hk hr
  rw [decide_eq_false h] at C
  go_enter Try.func48, Try.ntmps48
  go_wp2_with (first | (go_at_call 108; refine C.mono ?_; rintro e w1 ⟨rfl, rfl⟩))
  go_ret2
  exact ⟨rfl, Below.refl _ _⟩
theorem decrypt_nil (v : Value) (w : World) : Calls Try.prog 48 #[.pointer none, v] w (RetE 2 w) := by
  go_enter Try.func48, Try.ntmps48
  go_wp2_with (first | (go_at_call 108; refine (right_nil _ _).mono ?_; rintro e w1 ⟨rfl, rfl⟩))
  go_ret2
  exact ⟨rfl, Below.refl _ _⟩

theorem decrypt_calls (p v : Value) (rk l : List Nat) (w : World) (hk : KeyAt w.heap.size w p rk) (hrl : rk.length = 240) (hrb : Bytes rk) (hr : RdB w.heap.size w v l) (hb : Bytes l) (h : l.length = 16) :
    Calls Try.prog 48 #[p, v] w (RetSE (xorL (decF rk l 14) (rkF rk 0)) w) := by
  have C0 := right_calls _ p v rk l w hk hr
  rw [decide_eq_true h] at C0
  obtain ⟨kb, ad, ck, rfl, hkc⟩ := hk.cells hrl
  clear hk
  have hll : (bv l).length = 16 := by rw [bv_length, h]
  obtain ⟨al, c, hv, _, hB, hcell⟩ := RdS.addr hr (by intro h0; rw [h0] at hll; simp at hll)
  rw [h] at hv
  subst hv
  go_enter Try.func48, Try.ntmps48
  go_wp2_with (first
    | (go_at_call 108; refine C0.mono ?_; rintro e w1 ⟨rfl, rfl⟩)
    | (apply wpList_arrL; rfl; rfl; exact Try.underlying49; rfl; omega)
    | (refine wpList_loadArr (by rfl) rfl Try.underlying49 size_a16 rfl (bv l) hll hcell ?_)
    | (apply wpList_allocR _ _ zinfo_a16; rfl; rfl; intro g w2 hg1 hg2 hrt hb2; rw [zero16] at hrt)
    | (apply wpList_storeRow hrt (bv l).toArray; rfl; rfl; rfl; rfl; (rw [List.size_toArray, hll]; exact size_a16); (rw [List.size_toArray, List.size_toArray, hll, bv_length, List.length_replicate]); exact bv_all l; intro w3 hw3 hr3 hs3; have HW3 := Lib.hid hw3; clear hw3 hs3))
  have hbw : Below w.heap.size w w3 := by
    rw [HW3.out]
    exact hb2.trans (below_row _ hg1)
  clear hr hcell C0 hB HW3 hrt hb2
  go_loopw [7] (fun i wr => ∃ j : Nat, j ≤ 14 ∧ i = .int .i64 ((14 - j : Nat) : Int) ∧ Row wr g 49 (bv (decF rk l j)).toArray ∧ Below w.heap.size w wr) (fun i _ => (intOf i).toNat)
  case atStart => exact ⟨0, by omega, rfl, hr3, hbw⟩
  case round =>
    obtain ⟨j, hj, rfl, hrn, hbn⟩ := hrel
    clear hr3 hbw
    obtain ⟨x, hx⟩ : ∃ x, x = decF rk l j := ⟨_, rfl⟩
    have hxx := decF_blk rk l h hb j
    rw [← hx] at hrn hxx
    obtain ⟨hxl, hxb⟩ := hxx
    have hxl' : (bv x).length = 16 := by rw [bv_length, hxl]
    have HX := Lib.hid hx
    clear hx
    by_cases hlt : j < 14
    · obtain ⟨n, hn⟩ : ∃ n, n = 14 - j := ⟨_, rfl⟩
      rw [← hn]
      have hjn : j + n = 14 := by omega
      have HN := Lib.hid hn
      clear hn
      have hkl : (bv (rkF rk n)).length = 16 := by rw [bv_length, rkF_length rk hrl n (by omega)]
      obtain ⟨s0, hs0⟩ : ∃ s0, s0 = xorL x (rkF rk n) := ⟨_, rfl⟩
      have hl0 : s0.length = 16 := by rw [hs0, xorL_length _ _ (by rw [hxl, rkF_length rk hrl n (by omega)]), hxl]
      have hb0 : Bytes s0 := by rw [hs0]; exact xorL_bytes hxb (rkF_bytes rk hrb n)
      have hl0' : (bv s0).length = 16 := by rw [bv_length, hl0]
      have CA : RowKit.Hid (∀ w, Calls Try.prog 109 #[.agg (bv x).toArray, .agg (bv (rkF rk n)).toArray] w (RetB (blk s0) w)) := Lib.hid (fun w => by rw [hs0]; exact added_calls x (rkF rk n) hxb (rkF_bytes rk hrb n) hxl (rkF_length rk hrl n (by omega)) w)
      have CM : RowKit.Hid (∀ w, Calls Try.prog 112 #[.agg (bv s0).toArray, .func (.func 118) #[] #[]] w (RetB (blk (mixL [14, 11, 13, 9] s0)) w)) := Lib.hid (fun w => columns_calls s0 [14, 11, 13, 9] hb0 hl0 _ callFunc_unmix (fun c w hc hl => unmix_calls c hc hl w) w)
      have HS0 := Lib.hid hs0
      clear hs0
      go_wp2_with fail
      have hkq := hkc.next (hbn).drew
      have hcz : ∀ i u, (bv x)[i]? = some u → wr.drew.cell? ((⟨g, 0, none⟩ : Addr).add i) = some u := fun i u hx => by rw [Addr.add_lit, Nat.zero_add]; exact Row.cell (w := wr.drew) (g := g) (c := (bv x).toArray) (hrn) (by rwa [List.getElem?_toArray])
      have htop := hkq.top
      have hrqd : Row wr.drew g 49 (bv x).toArray := hrn
      have hbqd := (hbn).drew
      refine wp_region_still_tail 8 (by kernel_rfl) (by kernel_rfl) ?_
      simp only [List.take_succ_cons, List.take_zero, List.drop_succ_cons, List.drop_zero]
      refine wpStill_loadArr (bv x) (by rfl) rfl Try.underlying49 size_a16 rfl hxl' hcz ?_
      (try simp only [Act.put, List.setIfInBounds_toArray, List.set_cons_zero, List.set_cons_succ])
      still_step
      still_step
      still_step
      still_step
      still_step
      refine wpStill_indexS n (by rfl) rfl Try.underlying51 size_a16 rfl rfl rfl (by omega) ?_
      (try simp only [Act.put, List.setIfInBounds_toArray, List.set_cons_zero, List.set_cons_succ])
      refine wpStill_loadArr (bv (rkF rk n)) (by rfl) rfl Try.underlying49 size_a16 rfl hkl (hkq.round n) ?_
      (try simp only [Act.put, List.setIfInBounds_toArray, List.set_cons_zero, List.set_cons_succ])
      refine wpStill_nil ?_
      change wpList _ _ _ _ _ wr.drew
      clear hcz htop hkq
      generalize wr.drew = wd at *
      have hwd := hbqd.size
      by_cases h14 : n < 14
      · obtain ⟨z, hz⟩ : ∃ z, z = mixL [14, 11, 13, 9] s0 := ⟨_, rfl⟩
        have hzl : z.length = 16 := by rw [hz]; exact mixL_length _ _
        have hzb : Bytes z := by rw [hz]; exact mixL_bytes _ _
        have hzl' : (bv z).length = 16 := by rw [bv_length, hzl]
        obtain ⟨s2, hs2⟩ : ∃ s2, s2 = shL z 3 := ⟨_, rfl⟩
        have hl2 : s2.length = 16 := by rw [hs2, shL_length]
        have hb2s : Bytes s2 := by rw [hs2]; exact shL_bytes _ hzb _
        obtain ⟨ys, hys⟩ : ∃ ys, ys = s2.map bk := ⟨_, rfl⟩
        have hyl' : (bv ys).length = 16 := by rw [bv_length, hys, List.length_map, hl2]
        have hye : decF rk l (j + 1) = ys := by
          rw [hys, hs2, hz, HS0.out, HX.out, HN.out]
          simp only [decF]
          rw [if_pos (by omega)]
        have HY := Lib.hid hye
        have CS : RowKit.Hid (∀ w, Calls Try.prog 110 #[.agg (bv z).toArray, .int .i64 3] w (RetB (blk s2) w)) := Lib.hid (fun w => hs2 ▸ shifted_calls z hzb hzl 3 (N := 3) rfl (by omega) w)
        have CP : RowKit.Hid (∀ w, Calls Try.prog 111 #[blk s2, .func (.func 31) #[] #[]] w (RetB (blk ys) w)) := Lib.hid (fun w => hys ▸ put_back_calls s2 hb2s hl2 w)
        rw [← hz] at CM
        clear hz hs2 hye hys
        go_wp2_with (first
          | (go_at_call 109; refine (CA.out _).mono ?_; rintro e w4 ⟨rfl, hb4⟩; have hr4 := hrqd.next hb4)
          | (apply wpList_storeRow hr4 (bv s0).toArray; rfl; rfl; rfl; rfl; (rw [List.size_toArray, hl0']; exact size_a16); (rw [List.size_toArray, List.size_toArray, hl0', hxl']); exact bv_all s0; intro w5 hw5 hr5 hs5; have HW5 := Lib.hid hw5; clear hw5 hs5)
          | (apply wpList_loadRow hr5 hl0' Try.underlying49 size_a16; rfl; rfl; rfl)
          | (go_at_call 112; refine (CM.out _).mono ?_; rintro e w6 ⟨rfl, hb6⟩; have hr6 := hr5.next hb6)
          | (apply wpList_storeRow hr6 (bv z).toArray; rfl; rfl; rfl; rfl; (rw [List.size_toArray, hzl']; exact size_a16); (rw [List.size_toArray, List.size_toArray, hl0', hzl']); exact bv_all z; intro w7 hw7 hr7 hs7; have HW7 := Lib.hid hw7; clear hw7 hs7)
          | (apply wpList_loadRow hr7 hzl' Try.underlying49 size_a16; rfl; rfl; rfl)
          | (go_at_call 110; refine (CS.out _).mono ?_; rintro e w8 ⟨rfl, hb8⟩)
          | (go_at_call 111; refine (CP.out _).mono ?_; rintro e w9 ⟨rfl, hb9⟩; have hr9 := (hr7.next hb8).next hb9)
          | (apply wpList_storeRow hr9 (bv ys).toArray; rfl; rfl; rfl; rfl; (rw [List.size_toArray, hyl']; exact size_a16); (rw [List.size_toArray, List.size_toArray, hyl', hzl']); exact bv_all ys; intro w10 hw10 hr10 hs10; have HW10 := Lib.hid hw10; clear hw10 hs10))
        have hb5 : Below w.heap.size w w5 := by rw [HW5.out]; exact (hbqd.trans (hb4.mono hwd)).trans (below_row _ hg1)
        have hb7 : Below w.heap.size w w7 := by rw [HW7.out]; exact (hb5.trans (hb6.mono hb5.size)).trans (below_row _ hg1)
        have hs7 := hb7.size
        have hb10 : Below w.heap.size w w10 := by rw [HW10.out]; exact ((hb7.trans (hb8.mono hs7)).trans (hb9.mono (Nat.le_trans hs7 hb8.size))).trans (below_row _ hg1)
        go_roundw
        case rel => exact ⟨j + 1, by omega, by rw [show 14 - (j + 1) = n - 1 from by omega]; go_num, by rw [HY.out]; exact hr10, hb10⟩
        case measure => simp [intOf]; omega
      · obtain ⟨z, hz⟩ : ∃ z, z = s0 := ⟨_, rfl⟩
        have hzl : z.length = 16 := by rw [hz]; exact hl0
        have hzb : Bytes z := by rw [hz]; exact hb0
        have hzl' : (bv z).length = 16 := by rw [bv_length, hzl]
        obtain ⟨s2, hs2⟩ : ∃ s2, s2 = shL z 3 := ⟨_, rfl⟩
        have hl2 : s2.length = 16 := by rw [hs2, shL_length]
        have hb2s : Bytes s2 := by rw [hs2]; exact shL_bytes _ hzb _
        obtain ⟨ys, hys⟩ : ∃ ys, ys = s2.map bk := ⟨_, rfl⟩
        have hyl' : (bv ys).length = 16 := by rw [bv_length, hys, List.length_map, hl2]
        have hye : decF rk l (j + 1) = ys := by
          rw [hys, hs2, hz, HS0.out, HX.out, HN.out]
          simp only [decF]
          rw [if_neg (by omega)]
        have HY := Lib.hid hye
        have CS : RowKit.Hid (∀ w, Calls Try.prog 110 #[.agg (bv z).toArray, .int .i64 3] w (RetB (blk s2) w)) := Lib.hid (fun w => hs2 ▸ shifted_calls z hzb hzl 3 (N := 3) rfl (by omega) w)
        have CP : RowKit.Hid (∀ w, Calls Try.prog 111 #[blk s2, .func (.func 31) #[] #[]] w (RetB (blk ys) w)) := Lib.hid (fun w => hys ▸ put_back_calls s2 hb2s hl2 w)
        clear CM
        rw [hz] at hzl'
        have CS' : RowKit.Hid (∀ w, Calls Try.prog 110 #[.agg (bv s0).toArray, .int .i64 3] w (RetB (blk s2) w)) := hz ▸ CS
        clear hs2 hye hys CS
        go_wp2_with (first
          | (go_at_call 109; refine (CA.out _).mono ?_; rintro e w4 ⟨rfl, hb4⟩; have hr4 := hrqd.next hb4)
          | (apply wpList_storeRow hr4 (bv s0).toArray; rfl; rfl; rfl; rfl; (rw [List.size_toArray, hl0']; exact size_a16); (rw [List.size_toArray, List.size_toArray, hl0', hxl']); exact bv_all s0; intro w7 hw7 hr7 hs7; have HW7 := Lib.hid hw7; clear hw7 hs7)
          | (apply wpList_loadRow hr7 hl0' Try.underlying49 size_a16; rfl; rfl; rfl)
          | (go_at_call 110; refine (CS'.out _).mono ?_; rintro e w8 ⟨rfl, hb8⟩)
          | (go_at_call 111; refine (CP.out _).mono ?_; rintro e w9 ⟨rfl, hb9⟩; have hr9 := (hr7.next hb8).next hb9)
          | (apply wpList_storeRow hr9 (bv ys).toArray; rfl; rfl; rfl; rfl; (rw [List.size_toArray, hyl']; exact size_a16); (rw [List.size_toArray, List.size_toArray, hyl', hl0']); exact bv_all ys; intro w10 hw10 hr10 hs10; have HW10 := Lib.hid hw10; clear hw10 hs10))
        have hb7 : Below w.heap.size w w7 := by rw [HW7.out]; exact (hbqd.trans (hb4.mono hwd)).trans (below_row _ hg1)
        have hs7 := hb7.size
        have hb10 : Below w.heap.size w w10 := by rw [HW10.out]; exact ((hb7.trans (hb8.mono hs7)).trans (hb9.mono (Nat.le_trans hs7 hb8.size))).trans (below_row _ hg1)
        go_roundw
        case rel => exact ⟨j + 1, by omega, by rw [show 14 - (j + 1) = n - 1 from by omega]; go_num, by rw [HY.out]; exact hr10, hb10⟩
        case measure => simp [intOf]; omega
    · obtain rfl : j = 14 := by omega
      have hkl : (bv (rkF rk 0)).length = 16 := by rw [bv_length, rkF_length rk hrl 0 (by omega)]
      obtain ⟨s0, hs0⟩ : ∃ s0, s0 = xorL x (rkF rk 0) := ⟨_, rfl⟩
      have hl0 : s0.length = 16 := by rw [hs0, xorL_length _ _ (by rw [hxl, rkF_length rk hrl 0 (by omega)]), hxl]
      have hl0' : (bv s0).length = 16 := by rw [bv_length, hl0]
      have CA : RowKit.Hid (∀ w, Calls Try.prog 109 #[.agg (bv x).toArray, .agg (bv (rkF rk 0)).toArray] w (RetB (blk s0) w)) := Lib.hid (fun w => by rw [hs0]; exact added_calls x (rkF rk 0) hxb (rkF_bytes rk hrb 0) hxl (rkF_length rk hrl 0 (by omega)) w)
      have HE : xorL (decF rk l 14) (rkF rk 0) = s0 := by rw [hs0, HX.out]
      have HE' := Lib.hid HE
      clear hs0 HE
      go_wp2_with fail
      have hkq := hkc.next hbn.drew
      have hcz : ∀ i u, (bv x)[i]? = some u → wr.drew.cell? ((⟨g, 0, none⟩ : Addr).add i) = some u := fun i u hx => by rw [Addr.add_lit, Nat.zero_add]; exact Row.cell (w := wr.drew) (g := g) (c := (bv x).toArray) hrn (by rwa [List.getElem?_toArray])
      have htop := hkq.top
      have hrqd : Row wr.drew g 49 (bv x).toArray := hrn
      have hbqd := hbn.drew
      refine wp_region_still_tail 7 (by kernel_rfl) (by kernel_rfl) ?_
      simp only [List.take_succ_cons, List.take_zero, List.drop_succ_cons, List.drop_zero]
      refine wpStill_loadArr (bv x) (by rfl) rfl Try.underlying49 size_a16 rfl hxl' hcz ?_
      (try simp only [Act.put, List.setIfInBounds_toArray, List.set_cons_zero, List.set_cons_succ])
      still_step
      still_step
      still_step
      still_step
      refine wpStill_indexS 0 (by rfl) rfl Try.underlying51 size_a16 rfl rfl rfl (by omega) ?_
      (try simp only [Act.put, List.setIfInBounds_toArray, List.set_cons_zero, List.set_cons_succ])
      refine wpStill_loadArr (bv (rkF rk 0)) (by rfl) rfl Try.underlying49 size_a16 rfl hkl (hkq.round 0) ?_
      (try simp only [Act.put, List.setIfInBounds_toArray, List.set_cons_zero, List.set_cons_succ])
      refine wpStill_nil ?_
      change wpList _ _ _ _ _ wr.drew
      clear hcz htop hkq
      generalize wr.drew = wd at *
      have hwd := hbqd.size
      go_wp2_with (first
        | (go_at_call 109; refine (CA.out _).mono ?_; rintro e w4 ⟨rfl, hb4⟩; have hr4 := hrqd.next hb4)
        | (apply wpList_storeRow hr4 (bv s0).toArray; rfl; rfl; rfl; rfl; (rw [List.size_toArray, hl0']; exact size_a16); (rw [List.size_toArray, List.size_toArray, hl0', hxl']); exact bv_all s0; intro w5 hw5 hr5 hs5; have HW5 := Lib.hid hw5; clear hw5 hs5)
        | (apply wpList_buildB []; exact of_decide_eq_true rfl; rfl; rfl; rfl; intro gb w6 hgb1 hgb2 hob hb6)
        | (apply wpList_cutArrL 0 16 16; rfl; rfl; exact Try.underlying49; exact size_u8; rfl; exact .inl ⟨rfl, rfl⟩; exact .inl ⟨rfl, rfl, rfl⟩; exact .inl ⟨rfl, rfl⟩; omega; omega; omega)
        | (at_builtin; apply wpList_appendB hob (rdb_of_row (hr5.next hb6) hl0); rfl; rfl; rfl; rfl; (rw [hl0]; exact of_decide_eq_true rfl); (have := hb6.size; omega); intro v7 w7 ho7 hg7))
      go_ret2
      have hb5 : Below w.heap.size w w5 := by rw [HW5.out]; exact (hbqd.trans (hb4.mono hwd)).trans (below_row _ hg1)
      have s5 := hb5.size
      have s6 := hb6.size
      refine ⟨v7, rfl, ?_, (hb5.trans (hb6.mono s5)).trans (below_own hg7 hob s5 (by omega))⟩
      rw [HE'.out]
      exact own_base ho7 s5
end Go.Proofs.Ytfinekmegiengaa
