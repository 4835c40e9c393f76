/- The walks of layers 1 and 10: bytes filled, are both the same?, eights, mixed, joined. -/
import Derived.Test.YtfinekmegiengaaW09a
import Derived.Test.YtfinekmegiengaaPlnW
import Derived.Test.YtfinekmegiengaaWA
namespace Go.Proofs.Ytfinekmegiengaa
open Go.RowKit Nep
set_option maxRecDepth 100000
set_option linter.unusedVariables false
set_option linter.unusedSimpArgs false
set_option maxHeartbeats 1000000

theorem fill_calls (x n : Nat) {X A : Int} (hX : X = x) (hA : A = n) (hn : n ≤ 65536) (w : World) : Calls Try.prog 124 #[.int .u8 X, .int .i64 A] w (RetS (List.replicate n x) w) := by
  subst hX hA
  obtain ⟨ys, hys⟩ : ∃ ys, ys = List.replicate n x := ⟨_, rfl⟩
  obtain ⟨zs, hzs⟩ : ∃ zs, zs = bv (List.replicate n 0) := ⟨_, rfl⟩
  have hyl : ys.length = n := by rw [hys]; simp
  have hyg : ∀ k, k < n → (bv ys)[k]? = some (.int .u8 (x : Int)) := fun k hk => by
    rw [bv_get _ _ (by omega), hys]; simp [hk]
  have hzl : zs.length = n := by rw [hzs]; simp
  have hmn : ∀ w, (Builtin.min_ #[3, 3] 3 #[.int .i64 65536, .int .i64 (n : Int)]).run Try.prog w = .ok (.int .i64 n) w := fun w => by
    rw [run_min2]
    by_cases h : (n : Int) < 65536
    · rw [if_pos h]
    · rw [if_neg h, show (n : Int) = 65536 from by omega]
  have hmx : ∀ w, (Builtin.max_ #[3, 3] 3 #[.int .i64 0, .int .i64 (n : Int)]).run Try.prog w = .ok (.int .i64 n) w := fun w => by
    rw [run_max2]
    by_cases h : (n : Int) > 0
    · rw [if_pos h]
    · rw [if_neg h, show (n : Int) = 0 from by omega]
  have HYL := Lib.hid hyl
  have HYG := Lib.hid hyg
  have HZL := Lib.hid hzl
  have HZ := Lib.hid hzs
  rw [← hys]
  clear hys hyl hyg hzl hzs
  go_enter Try.func124, Try.ntmps124
  go_wp2_with (first | (apply wpList_makeBytes (n := n); rfl; rfl; rfl; rfl; omega; intro g w1 hg1 hg2 hrow hb1))
  have hf : FillRow w1 g 5 (bv ys) zs 0 := .start (by rw [HZ.out]; exact hrow) (by rw [HZL.out, bv_length, HYL.out])
  clear hrow hmn hmx
  go_loopw [13] (fun i wr => ∃ k : Nat, k ≤ n ∧ i = .int .i64 k ∧ FillRow wr g 5 (bv ys) zs k ∧ Below w.heap.size w wr) (fun i _ => n - (intOf i).toNat)
  case atStart => exact ⟨0, by omega, rfl, hf, hb1⟩
  case round =>
    obtain ⟨k, hk, rfl, hfk, hbk⟩ := hrel
    clear hf hb1
    by_cases hlt : k < n
    · have hc2 := hfk.cell (by rw [HZL.out]; exact hlt)
      have hfr2 := hfk.free k
      have hy := Lib.hid (HYG.out k hlt)
      go_wp2_with fail
      go_roundw
      case rel => exact ⟨k + 1, by omega, by go_num, hfk.put hy.out, hbk.setCell (by exact hg1) _⟩
      case measure => simp [intOf]; omega
    · go_wp2_with fail
      go_ret
      obtain rfl : k = n := by omega
      exact RetS.of_row (hfk.done (by rw [HZL.out]; exact Nat.le_refl _)) hg1 hbk (by rw [HYL.out]; omega) HYL.out.symm

theorem or_zero (x y : Nat) : x ||| y = 0 ↔ x = 0 ∧ y = 0 := by
  constructor
  · intro h
    constructor
    · apply Nat.eq_of_testBit_eq
      intro i
      have := congrArg (fun z => Nat.testBit z i) h
      simp at this
      simp [this.1]
    · apply Nat.eq_of_testBit_eq
      intro i
      have := congrArg (fun z => Nat.testBit z i) h
      simp at this
      simp [this.2]
  · rintro ⟨rfl, rfl⟩; rfl
theorem xor_zero' (x y : Nat) : x ^^^ y = 0 ↔ x = y := by
  constructor
  · intro h
    have := congrArg (fun z => z ^^^ y) h
    simpa [Nat.xor_assoc] using this
  · rintro rfl; simp

theorem osame_calls (v1 v2 : Value) (a b : List Nat) (w : World) (ha : Bytes a) (hb : Bytes b) (hr1 : RdB w.heap.size w v1 a) (hr2 : RdB w.heap.size w v2 b) (hn : a.length ≤ 140737488351232) :
    Calls Try.prog 123 #[v1, v2] w (RetB (.bool (decide (a = b))) w) := by
  by_cases hab : a.length = b.length
  · have hng : ((a.length : Int) != (b.length : Int)) = false := by rw [hab]; simp
    have HAB := Lib.hid hab
    clear hab
    have hr10 := hr1
    have hr20 := hr2
    go_enter Try.func123, Try.ntmps123
    go_wp2_with (first | (refine wpList_lenB hr1 rfl rfl rfl ?_) | (refine wpList_lenB hr2 rfl rfl rfl ?_))
    clear hr1 hr2
    go_loopw [5, 14] (fun u i wr => ∃ k m : Nat, k ≤ a.length ∧ m < 256 ∧ i = .int .i64 k ∧ u = .int .u8 m ∧ Hid (m = 0 ↔ ∀ i, i < k → a.getD i 0 = b.getD i 0) ∧ Below w.heap.size w wr) (fun _ i _ => a.length - (intOf i).toNat)
    case atStart => exact ⟨0, 0, by omega, by omega, rfl, rfl, Lib.hid ⟨fun _ i hi => absurd hi (by omega), fun _ => rfl⟩, Below.refl _ _⟩
    case round =>
      obtain ⟨k, m, hk, hm8, rfl, rfl, hal, hbk⟩ := hrel
      have hrk1 := hr10.mono hbk
      have hrk2 := hr20.mono hbk
      by_cases hlt : k < a.length
      · obtain ⟨ad1, c1, rfl, _, _, hc1⟩ := hrk1.at hlt
        obtain ⟨ad2, c2, rfl, _, _, hc2⟩ := hrk2.at (k := k) (by have := HAB.out; omega)
        obtain ⟨x, hx⟩ : ∃ x, x = a.getD k 0 := ⟨_, rfl⟩
        obtain ⟨y, hy⟩ : ∃ y, y = b.getD k 0 := ⟨_, rfl⟩
        have hx8 : x < 256 := hx ▸ ha.get k
        have hy8 : y < 256 := hy ▸ hb.get k
        rw [← hx] at hc1
        rw [← hy] at hc2
        obtain ⟨z, hz⟩ : ∃ z, z = x ^^^ y := ⟨_, rfl⟩
        have hz8 : z < 256 := hz ▸ Nat.xor_lt_two_pow (n := 8) hx8 hy8
        obtain ⟨u, hu⟩ : ∃ u, u = m ||| z := ⟨_, rfl⟩
        have hu8 : u < 256 := hu ▸ Nat.or_lt_two_pow (n := 8) hm8 hz8
        have hxz : bits .xor .u8 (x : Int) (y : Int) = z := hz ▸ u8_xor_nat x y hx8 hy8
        have hmu : bits .or .u8 (m : Int) (z : Int) = u := hu ▸ u8_or_nat m z hm8 hz8
        have hnext : u = 0 ↔ ∀ i, i < k + 1 → a.getD i 0 = b.getD i 0 := by
          rw [hu, or_zero, hz, xor_zero', hal.out, hx, hy]
          constructor
          · rintro ⟨h1, h2⟩ i hi
            by_cases h : i < k
            · exact h1 i h
            · obtain rfl : i = k := by omega
              exact h2
          · intro h
            exact ⟨fun i hi => h i (by omega), h k (by omega)⟩
        have hl2 : (k : Int) < (b.length : Int) := by have := HAB.out; omega
        have hl1 : (k : Int) < (a.length : Int) := by omega
        have hk0 : (0 : Int) ≤ (k : Int) := by omega
        have HN := Lib.hid hnext
        clear hx hy hz hu hnext hal hrk1 hrk2
        go_wp2_with fail
        go_quiet (fail)
        go_wp2
        go_roundw
        case rel => exact ⟨k + 1, u, by omega, hu8, by go_num, rfl, HN, below_drewN hbk _⟩
        case measure => simp [intOf]; omega
      · obtain rfl : k = a.length := by omega
        have hres : ((m : Int) == 0) = decide (a = b) := by
          by_cases h : m = 0
          · rw [decide_eq_true (eq_of_getD HAB.out (hal.out.1 h)), h]; rfl
          · rw [decide_eq_false (fun e => h (hal.out.2 (fun i _ => by rw [e])))]; simp; omega
        generalize decide (a = b) = r at *
        clear hal
        go_wp2_with fail
        go_ret
        exact RetB.mk rfl hbk
  · have hng : ((a.length : Int) != (b.length : Int)) = true := by simp; omega
    go_enter Try.func123, Try.ntmps123
    go_wp2_with (first | (refine wpList_lenB hr1 rfl rfl rfl ?_) | (refine wpList_lenB hr2 rfl rfl rfl ?_))
    go_ret
    refine RetB.mk (val_bool ?_) (Below.refl _ _)
    refine (decide_eq_false ?_).symm
    intro h
    exact hab (by rw [h])

/-- may so many bytes be wrapped? -/
def WOk (n : Nat) : Prop := 16 ≤ n ∧ n ≤ 256 ∧ n % 8 = 0
theorem wright_yes (n : Nat) {A : Int} (hA : A = n) (h : WOk n) (w : World) : Calls Try.prog 127 #[.int .i64 A] w (RetP (.bool true) w) := by
  subst hA
  obtain ⟨h1, h2, h3⟩ := h
  have e3 : ((n : Int) % 8 == 0) = true := by simp; omega
  go_enter Try.func127, Try.ntmps127
  go_wp2
  go_ret
  exact ⟨rfl, rfl⟩
theorem wright_no (n : Nat) {A : Int} (hA : A = n) (h : ¬ WOk n) (w : World) : Calls Try.prog 127 #[.int .i64 A] w (RetP (.bool false) w) := by
  subst hA
  by_cases h1 : 16 ≤ n
  · by_cases h2 : n ≤ 256
    · have e3 : ((n : Int) % 8 == 0) = false := by
        have : ¬ n % 8 = 0 := fun h3 => h ⟨h1, h2, h3⟩
        simp; omega
      clear h
      go_enter Try.func127, Try.ntmps127
      go_wp2
      go_ret
      exact ⟨rfl, rfl⟩
    · clear h
      go_enter Try.func127, Try.ntmps127
      go_wp2
      go_ret
      exact ⟨rfl, rfl⟩
  · clear h
    go_enter Try.func127, Try.ntmps127
    go_wp2
    go_ret
    exact ⟨rfl, rfl⟩
theorem rwright_yes (n : Nat) {A : Int} (hA : A = n) (h : WOk n) (w : World) : Calls Try.prog 69 #[.int .i64 A] w (RetP (.bool true) w) := by
  subst hA
  obtain ⟨h1, h2, h3⟩ := h
  have e3 : ((n : Int) % 8 == 0) = true := by simp; omega
  go_enter Try.func69, Try.ntmps69
  go_wp2
  go_ret
  exact ⟨rfl, rfl⟩
theorem rwright_no (n : Nat) {A : Int} (hA : A = n) (h : ¬ WOk n) (w : World) : Calls Try.prog 69 #[.int .i64 A] w (RetP (.bool false) w) := by
  subst hA
  by_cases h1 : 16 ≤ n
  · by_cases h2 : n ≤ 256
    · have e3 : ((n : Int) % 8 == 0) = false := by
        have : ¬ n % 8 = 0 := fun h3 => h ⟨h1, h2, h3⟩
        simp; omega
      clear h
      go_enter Try.func69, Try.ntmps69
      go_wp2
      go_ret
      exact ⟨rfl, rfl⟩
    · clear h
      go_enter Try.func69, Try.ntmps69
      go_wp2
      go_ret
      exact ⟨rfl, rfl⟩
  · clear h
    go_enter Try.func69, Try.ntmps69
    go_wp2
    go_ret
    exact ⟨rfl, rfl⟩

theorem parts_calls (v : Value) (l : List Nat) (n : Nat) (w : World) (hr : RdB w.heap.size w v l) (hl : l.length = 8 * n) (hn : n ≤ 100) : Calls Try.prog 128 #[v] w (RetL (parts8 l n) w) := by
  have hr0 := hr
  have HL := Lib.hid hl
  clear hl
  go_enter Try.func128, Try.ntmps128
  go_wp2_with fail
  clear hr
  go_loopw [3, 4] (fun s i wr => ∃ k : Nat, k ≤ n ∧ i = .int .i64 ((8 * k : Nat) : Int) ∧ OwnL w.heap.size wr s (parts8 l k) ∧ Below w.heap.size w wr) (fun _ i _ => l.length - (intOf i).toNat)
  case atStart => exact ⟨0, by omega, rfl, OwnL.nil _ _, Below.refl _ _⟩
  case round =>
    obtain ⟨k, hk, hi, hown, hbk⟩ := hrel
    have hbs := hbk.size
    have hrk := hr0.mono hbk
    obtain ⟨q, hq⟩ : ∃ q, q = 8 * k := ⟨_, rfl⟩
    rw [← hq] at hi
    subst hi
    by_cases hlt : k < n
    · have hs : parts8 l (k + 1) = parts8 l k ++ [(l.drop q).take (q + 8 - q)] := by rw [parts8_snoc, hq, show 8 * k + 8 - 8 * k = 8 from by omega]
      have hml := parts8_length l k
      have hkl : q + 8 ≤ l.length := by rw [HL.out]; omega
      have hq800 : q ≤ 800 := by omega
      have HS := Lib.hid hs
      have HML := Lib.hid hml
      have HQ := Lib.hid hq
      clear hs hml hq
      go_wp2_with (first
        | (refine wpList_lenB hrk rfl rfl rfl ?_)
        | (apply wpList_cutB hrk q (q + 8); rfl; rfl; rfl; exact .inr ⟨_, _, rfl, by omega⟩; exact .inr ⟨_, _, rfl, by omega⟩; exact .inr ⟨_, _, q + 8, rfl, by omega, by omega, by omega⟩; omega; omega; intro v' hr')
        | (apply wpList_buildL1 v'; (obtain ⟨_, ay, cy, hye, _⟩ := hr'; rw [hye]; rfl); rfl; rfl; rfl; intro gb wb hgb1 hgb2 hob hbb)
        | (at_builtin; apply wpList_appendL (hown.next hbb) ((hr'.up hbs).next hbb) (fun g hg => hr'.apart (hown.block_lt g hg).1) hob; rfl; rfl; rfl; rfl; rw [HML.out]; omega; exact Nat.le_trans hbs hbb.size; intro v2 w2 hown' hgr'))
      go_roundw
      case rel => exact ⟨k + 1, by omega, by have := HQ.out; go_num, by rw [HS.out]; exact hown', hbk.trans ((hbb.mono hbs).trans (below_ownL hgr' (hown.next hbb) (Nat.le_refl _) (Nat.le_trans hbs hbb.size)))⟩
      case measure => simp [intOf]; omega
    · have hql : l.length ≤ q := by rw [HL.out]; omega
      clear hq
      go_wp2_with (first | (refine wpList_lenB hrk rfl rfl rfl ?_))
      go_ret
      obtain rfl : k = n := by omega
      exact ⟨_, rfl, hown, hbk⟩

theorem mixed10_calls (v : Value) (a : List Nat) (n : Nat) {A : Int} (hA : A = n) (hn : n ≤ 100000) (w : World) (hab : Bytes a) (hr : RdB w.heap.size w v a) (hl : a.length = 8) : Calls Try.prog 130 #[v, .int .i64 A] w (RetS (mix8 a n) w) := by
  subst hA
  have hnum : num a < 18446744073709551616 := by
    have := num_lt a hab
    rw [hl] at this
    exact this
  have hx : num a ^^^ n < 18446744073709551616 := Nat.xor_lt_two_pow (n := 64) hnum (by omega)
  have hb := mix8_big a n hl hab
  have C1 : RowKit.Hid (∀ w, RdB w.heap.size w v a → Calls Try.prog 100 #[v] w (RetP (.int .u64 (num a)) w)) := Lib.hid (fun w h => num_calls v a w hab h (by omega))
  have hxe : bits .xor .u64 ((num a : Nat) : Int) (n : Int) = ((num a ^^^ n : Nat) : Int) := u64_xor_nat _ _ hnum (by omega)
  obtain ⟨m, hm⟩ : ∃ m, m = num a ^^^ n := ⟨_, rfl⟩
  rw [← hm] at hxe hb hx
  have C2 : RowKit.Hid (∀ w, Calls Try.prog 103 #[.int .u64 (m : Int), .int .i64 8] w (RetS (mix8 a n) w)) := Lib.hid (fun w => hb ▸ big_calls m 8 rfl rfl hx (by omega) w)
  generalize num a = q at *
  generalize mix8 a n = y at *
  clear hm hx hb hnum
  go_enter Try.func130, Try.ntmps130
  go_wp2_with (first
    | (go_at_call 100; refine (C1.out _ hr).mono ?_; rintro e w1 ⟨rfl, rfl⟩)
    | (go_at_call 103; refine (C2.out _).mono ?_; rintro e w2 ⟨v2, rfl, ho2, hb2⟩))
  go_ret
  exact ⟨_, rfl, ho2, hb2⟩

theorem join_calls (v1 v2 : Value) (a : List Nat) (L : List (List Nat)) (w : World) (hr1 : RdB w.heap.size w v1 a) (hr2 : RdL w.heap.size w v2 L) (ha : a.length ≤ 1000) (hL : ∀ x ∈ L, x.length ≤ 1000) (hLl : L.length ≤ 1000) : Calls Try.prog 129 #[v1, v2] w (RetS (a ++ L.flatten) w) := by
  have hr20 := hr2
  have hsn : ∀ k, k < L.length → a ++ (L.take (k + 1)).flatten = (a ++ (L.take k).flatten) ++ L.getD k [] := fun k hk => by
    rw [take_succ_getL L k [] hk, List.flatten_append]; simp
  have hfl : ∀ k, k ≤ L.length → (a ++ (L.take k).flatten).length ≤ 1000 + 1000 * k := fun k => by
    induction k with
    | zero => intro _; simp; omega
    | succ k ih =>
      intro hk
      have h1 := ih (by omega)
      have h2 : (L.getD k []).length ≤ 1000 := by
        rw [List.getD_eq_getElem?_getD, List.getElem?_eq_getElem (by omega)]; exact hL _ (List.getElem_mem _)
      rw [hsn k (by omega), List.length_append]
      omega
  have hLg : ∀ k, k < L.length → (L.getD k []).length ≤ 1000 := fun k hk => by
    rw [List.getD_eq_getElem?_getD, List.getElem?_eq_getElem (by omega)]; exact hL _ (List.getElem_mem _)
  have HSN := Lib.hid hsn
  have HFL := Lib.hid hfl
  have HLG := Lib.hid hLg
  clear hsn hfl hLg hL
  go_enter Try.func129, Try.ntmps129
  go_wp2_with (first
    | (apply wpList_buildB []; exact of_decide_eq_true rfl; rfl; rfl; rfl; intro ge we hge1 hge2 hoe hbe)
    | (at_builtin; apply wpList_appendB hoe (hr1.next hbe); rfl; rfl; rfl; rfl; (simp; omega); (have := hbe.size; omega); intro v3 w3 ho3 hg3; have hb3 : Below w.heap.size w w3 := hbe.trans (below_own hg3 hoe (Nat.le_refl _) hbe.size); have ho3' : w3.ownsRow w.heap.size 5 1 v3 (a ++ (L.take 0).flatten).length (bv (a ++ (L.take 0).flatten)) := (by simpa using ho3); clear ho3 hg3 hoe hbe)
    | (refine wpList_lenL (hr2.mono hb3) rfl rfl rfl ?_))
  clear hr1 hr2
  go_loopw [5, 13] (fun s i wr => ∃ k : Nat, k ≤ L.length ∧ i = .int .i64 k ∧ wr.ownsRow w.heap.size 5 1 s (a ++ (L.take k).flatten).length (bv (a ++ (L.take k).flatten)) ∧ Below w.heap.size w wr) (fun _ i _ => L.length - (intOf i).toNat)
  case atStart => exact ⟨0, by omega, rfl, ho3', hb3⟩
  case round =>
    obtain ⟨k, hk, rfl, hown, hbk⟩ := hrel
    clear ho3' hb3
    have hbs := hbk.size
    by_cases hlt : k < L.length
    · have hLk := hr20.mono hbk
      have hs := HSN.out k hlt
      have h1 := HFL.out k hk
      have h2 := HLG.out k hlt
      obtain ⟨x, hx⟩ : ∃ x, x = L.getD k [] := ⟨_, rfl⟩
      obtain ⟨P, hP⟩ : ∃ P, P = a ++ (L.take k).flatten := ⟨_, rfl⟩
      rw [← hx, ← hP] at hs
      rw [← hP] at hown h1
      rw [← hx] at h2
      have HX := Lib.hid hx
      have HS := Lib.hid hs
      clear hs hx hP
      go_wp2_with (first
        | (apply wpList_indexL hLk k hlt; rfl; rfl; rfl; rfl; rfl; intro p y hp hcell hry; rw [← HX.out] at hry)
        | (at_builtin; apply wpList_appendB hown hry; rfl; rfl; rfl; rfl; omega; omega; intro v' w' hown' hgr'))
      have hb' := below_own hgr' hown (Nat.le_refl _) hbs
      go_roundw
      case rel => exact ⟨k + 1, by omega, by go_num, by rw [HS.out]; exact hown', hbk.trans hb'⟩
      case measure => simp [intOf]; omega
    · go_wp2_with fail
      go_ret
      obtain rfl : k = L.length := by omega
      rw [List.take_length] at hown
      exact ⟨_, rfl, hown, hbk⟩
end Go.Proofs.Ytfinekmegiengaa
