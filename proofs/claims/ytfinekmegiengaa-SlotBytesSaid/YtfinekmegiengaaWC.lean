/- The walks of the references of layers 5 to 7. -/
import Derived.Test.YtfinekmegiengaaWB
import Derived.Test.YtfinekmegiengaaWA
import Derived.Test.YtfinekmegiengaaMemA
import Derived.Test.YtfinekmegiengaaPlnB
import Derived.Test.YtfinekmegiengaaPlainB
import Derived.Deep.DrawnRows
/- The walks of the references of layers 6 and 7: the table, the table turned, bytes put for, a round's key, rows shifted. -/
namespace Go.Proofs.Ytfinekmegiengaa
open Go.RowKit Nep
set_option maxRecDepth 100000
set_option linter.unusedVariables false
set_option maxHeartbeats 1000000

theorem rtable_calls (w : World) : Calls Try.prog 40 #[] w (RetS sboxL w) := by
  obtain ⟨ys, hys⟩ : ∃ ys, ys = sboxL := ⟨_, rfl⟩
  have hyl : ys.length = 256 := by rw [hys]; decide +kernel
  have hyg : ∀ k, ys.getD k 0 = sb k := fun k => by rw [hys]; rfl
  have HYL := Lib.hid hyl
  have HYG := Lib.hid hyg
  rw [← hys]
  clear hys hyl hyg
  go_enter Try.func40, Try.ntmps40
  go_wp2_with (first | (apply wpList_buildB []; exact of_decide_eq_true rfl; rfl; rfl; rfl; intro g0 w0 hg01 hg02 hown0 hb0))
  go_loopw [1, 2] (fun s i wr => ∃ k : Nat, k ≤ 256 ∧ i = .int .i64 k ∧ wr.ownsRow w.heap.size 5 1 s (ys.take k).length (bv (ys.take k)) ∧ Below w.heap.size w wr) (fun _ i _ => 256 - (intOf i).toNat)
  case atStart => exact ⟨0, by omega, rfl, hown0, hb0⟩
  case round =>
    obtain ⟨k, hk, rfl, hown, hbk⟩ := hrel
    clear hown0
    by_cases hlt : k < 256
    · have hs : ys.take (k + 1) = ys.take k ++ [sb k] := by rw [take_succ_getD _ _ (by rw [HYL.out]; exact hlt), HYG.out]
      have hbs := hbk.size
      have htl : (ys.take k).length = k := by rw [List.length_take, HYL.out]; omega
      have C1 : ∀ w, Calls Try.prog 30 #[.int .u8 (k : Int)] w (RetP (.int .u8 (sb k)) w) := fun w => by
        have h := sub06 k hlt w
        rwa [rsub_eq k hlt] at h
      have hc : (k : Int) % 256 = k := by omega
      have HS := Lib.hid hs
      have HTL := Lib.hid htl
      have HC1 := Lib.hid C1
      clear hs htl C1
      go_wp2_with (first
        | (go_at_call 30; refine (HC1.out _).mono ?_; rintro e w' ⟨rfl, rfl⟩)
        | (apply wpList_buildB [sb k]; exact of_decide_eq_true rfl; rfl; rfl; rfl; intro gb wb hgb1 hgb2 hob hbb)
        | (at_builtin; apply wpList_appendB (own_next hown hbb) (RdB.of_own hob); rfl; rfl; rfl; rfl; rw [HTL.out]; simp; omega; omega; intro v' w' hown' hgr'))
      have hb' := below_own hgr' (own_next hown hbb) (Nat.le_refl _) (by have := hbb.size; omega)
      go_roundw
      case rel => exact ⟨k + 1, by omega, by go_num, by rw [HS.out]; exact hown', hbk.trans ((hbb.mono hbs).trans hb')⟩
      case measure => simp [intOf]; omega
    · go_wp2_with fail
      go_ret
      obtain rfl : k = 256 := by omega
      rw [List.take_of_length_le (by rw [HYL.out]; exact Nat.le_refl _)] at hown
      exact ⟨_, rfl, hown, hbk⟩

theorem rput_calls (v1 v2 : Value) (b t : List Nat) (w : World) (hb : Bytes b) (ht : Bytes t) (hr1 : RdB w.heap.size w v1 b) (hr2 : RdB w.heap.size w v2 t) (hn : b.length ≤ 140737488351232) (htl : t.length = 256) :
    Calls Try.prog 115 #[v1, v2] w (RetS (b.map fun x => t.getD x 0) w) := by
  obtain ⟨ys, hys⟩ : ∃ ys, ys = b.map fun x => t.getD x 0 := ⟨_, rfl⟩
  have hyl : ys.length = b.length := by rw [hys]; simp
  have HY := Lib.hid hys
  have HYL := Lib.hid hyl
  have HT := Lib.hid htl
  rw [← hys]
  clear hys hyl htl
  have hr10 := hr1
  have hr20 := hr2
  go_enter Try.func115, Try.ntmps115
  go_wp2_with (first | (apply wpList_buildB []; exact of_decide_eq_true rfl; rfl; rfl; rfl; intro g0 w0 hg01 hg02 hown0 hb0))
  clear hr1 hr2
  go_loopw [5, 6] (fun s i wr => ∃ k : Nat, k ≤ b.length ∧ i = .int .i64 k ∧ wr.ownsRow w.heap.size 5 1 s (ys.take k).length (bv (ys.take k)) ∧ Below w.heap.size w wr) (fun _ i _ => b.length - (intOf i).toNat)
  case atStart => exact ⟨0, by omega, rfl, hown0, hb0⟩
  case round =>
    obtain ⟨k, hk, rfl, hown, hbk⟩ := hrel
    clear hown0
    have hrk1 := hr10.mono hbk
    have hrk2 := hr20.mono hbk
    by_cases hlt : k < b.length
    · obtain ⟨x, hx⟩ : ∃ x, x = b.getD k 0 := ⟨_, rfl⟩
      obtain ⟨y, hy⟩ : ∃ y, y = t.getD x 0 := ⟨_, rfl⟩
      have hx8 : x < 256 := hx ▸ hb.get k
      have hxt : x < t.length := by rw [HT.out]; exact hx8
      have e1 : ((b.getD k 0 : Nat) : Int) = x := by rw [hx]
      have e2 : ((t.getD x 0 : Nat) : Int) = y := by rw [hy]
      have hs : ys.take (k + 1) = ys.take k ++ [y] := by
        rw [take_succ_getD _ _ (by have := HYL.out; omega), HY.out, hy, hx]
        simp [List.getElem?_eq_getElem hlt]
      have hbs := hbk.size
      have htl : (ys.take k).length = k := by rw [List.length_take, HYL.out]; omega
      have HS := Lib.hid hs
      have HTL := Lib.hid htl
      have HE1 := Lib.hid e1
      have HE2 := Lib.hid e2
      clear hs hx hy htl e1 e2
      go_wp2_with (first
        | (refine wpList_lenB hrk1 rfl rfl rfl ?_)
        | (apply wpList_indexB hrk1 k hlt; rfl; rfl; rfl; rfl; rfl; rw [HE1.out]; intro p hp hcell)
        | (apply wpList_indexB hrk2 x hxt; rfl; rfl; rfl; rfl; rfl; rw [HE2.out]; intro p2 hp2 hcell2)
        | (apply wpList_buildB [y]; exact of_decide_eq_true rfl; rfl; rfl; rfl; intro gb wb hgb1 hgb2 hob hbb)
        | (at_builtin; apply wpList_appendB (own_next hown hbb) (RdB.of_own hob); rfl; rfl; rfl; rfl; rw [HTL.out]; simp; omega; omega; intro v' w' hown' hgr'))
      have hb' := below_own hgr' (own_next hown hbb) (Nat.le_refl _) (by have := hbb.size; omega)
      go_roundw
      case rel => exact ⟨k + 1, by omega, by go_num, by rw [HS.out]; exact hown', hbk.trans ((hbb.mono hbs).trans hb')⟩
      case measure => simp [intOf]; omega
    · go_wp2_with (first | (refine wpList_lenB hrk1 rfl rfl rfl ?_))
      go_ret
      obtain rfl : k = b.length := by omega
      rw [List.take_of_length_le (by rw [HYL.out]; exact Nat.le_refl _)] at hown
      exact ⟨_, rfl, hown, hbk⟩

theorem rkL_take (L : List (List Nat)) (r k : Nat) (h : 4 * r + k < L.length) : ((L.drop (4 * r)).take (k + 1)).flatten = ((L.drop (4 * r)).take k).flatten ++ L.getD (4 * r + k) [] := by
  have hl : k < (L.drop (4 * r)).length := by rw [List.length_drop]; omega
  rw [List.take_succ_eq_append_getElem hl, List.flatten_append]
  simp [List.getElem?_eq_getElem h]

theorem rround_calls (v : Value) (L : List (List Nat)) (r : Nat) {R : Int} (hR : R = r) (w : World) (hL : ∀ x ∈ L, x.length = 4) (hr : RdL w.heap.size w v L) (hrl : 4 * r + 4 ≤ L.length) (h60 : L.length ≤ 60) :
    Calls Try.prog 114 #[v, .int .i64 R] w (RetS (rkL L r) w) := by
  subst hR
  have hfl : ∀ k, k ≤ 4 → (((L.drop (4 * r)).take k).flatten).length = 4 * k := fun k hk => by
    rw [flatten_length _ (fun x hx => hL x (List.mem_of_mem_drop (List.mem_of_mem_take hx))), List.length_take, List.length_drop]
    omega
  have HFL := Lib.hid hfl
  clear hfl
  have hr0 := hr
  go_enter Try.func114, Try.ntmps114
  go_wp2_with (first | (apply wpList_buildB []; exact of_decide_eq_true rfl; rfl; rfl; rfl; intro g0 w0 hg01 hg02 hown0 hb0))
  clear hr
  go_loopw [5, 6] (fun s i wr => ∃ k : Nat, k ≤ 4 ∧ i = .int .i64 ((4 * r + k : Nat) : Int) ∧ wr.ownsRow w.heap.size 5 1 s ((L.drop (4 * r)).take k).flatten.length (bv ((L.drop (4 * r)).take k).flatten) ∧ Below w.heap.size w wr) (fun _ i _ => (4 * r + 4) - (intOf i).toNat)
  case atStart => exact ⟨0, by omega, by go_num, hown0, hb0⟩
  case round =>
    obtain ⟨k, hk, rfl, hown, hbk⟩ := hrel
    clear hown0
    have hrk := hr0.mono hbk
    have hfk := HFL.out k hk
    obtain ⟨q, hq⟩ : ∃ q, q = 4 * r + k := ⟨_, rfl⟩
    by_cases hlt : k < 4
    · have hs := rkL_take L r k (by omega)
      have hx4 : (L.getD (4 * r + k) []).length = 4 := by
        rw [List.getD_eq_getElem?_getD, List.getElem?_eq_getElem (show 4 * r + k < L.length by omega)]
        exact hL _ (List.getElem_mem _)
      rw [← hq] at hs hx4 ⊢
      have hql : q < L.length := by omega
      have hq4 : (q : Int) < 4 * (r : Int) + 4 := by omega
      have hbs := hbk.size
      have HS := Lib.hid hs
      have HQ := Lib.hid hq
      have HX4 := Lib.hid hx4
      have HFK := Lib.hid hfk
      clear hs hq hx4 hfk
      go_wp2_with (first
        | (apply wpList_indexL hrk q hql; rfl; rfl; rfl; rfl; rfl; intro p y hp hcell hry)
        | (at_builtin; apply wpList_appendB hown hry; rfl; rfl; rfl; rfl; rw [HFK.out, HX4.out]; omega; omega; intro v' w' hown' hgr'))
      have hb' := below_own hgr' hown (Nat.le_refl _) hbs
      go_roundw
      case rel => exact ⟨k + 1, by omega, by have := HQ.out; go_num, by rw [HS.out]; exact hown', hbk.trans hb'⟩
      case measure => simp [intOf]; omega
    · obtain rfl : k = 4 := by omega
      have hq4 : (4 * (r : Int) + 4 ≤ (q : Int)) := by omega
      rw [← hq]
      have HQ := Lib.hid hq
      clear hq hfk
      go_wp2_with fail
      go_ret
      exact ⟨_, rfl, hown, hbk⟩
end Go.Proofs.Ytfinekmegiengaa
/- The walks of the references of layers 5 to 7: rows shifted, a table turned, a column turned. -/
namespace Go.Proofs.Ytfinekmegiengaa
open Go.RowKit Nep
set_option maxRecDepth 100000
set_option linter.unusedVariables false
set_option linter.unusedSimpArgs false
set_option maxHeartbeats 1000000

theorem rshift_calls (v : Value) (b : List Nat) (n : Nat) {A : Int} (hA : A = n) (hn : n = 1 ∨ n = 3) (w : World) (hb : Bytes b) (hr : RdB w.heap.size w v b) (hl : b.length = 16) :
    Calls Try.prog 47 #[v, .int .i64 A] w (RetS (shL b n) w) := by
  have hr0 := hr
  obtain ⟨ys, hys⟩ : ∃ ys, ys = shL b n := ⟨_, rfl⟩
  obtain ⟨zs, hzs⟩ : ∃ zs, zs = bv (List.replicate 16 0) := ⟨_, rfl⟩
  have hyl : ys.length = 16 := by rw [hys, shL_length]
  have hzl : zs.length = 16 := by rw [hzs]; simp
  have hyg : ∀ k, k < 16 → ys.getD k 0 = b.getD (4 * ((k / 4 + n * (k % 4)) % 4) + k % 4) 0 := fun k hk => by rw [hys]; unfold shL; simp [hk]
  rw [← hys]
  have HYL := Lib.hid hyl
  have HZL := Lib.hid hzl
  have HL := Lib.hid hl
  clear hys
  have hn' : A = 1 ∧ n = 1 ∨ A = 3 ∧ n = 3 := by omega
  clear hn hA
  rcases hn' with ⟨rfl, rfl⟩ | ⟨rfl, rfl⟩
  all_goals
    have HYG := Lib.hid hyg
    go_enter Try.func47, Try.ntmps47
    go_wp2_with (first | (apply wpList_makeBytes (n := 16); rfl; rfl; rfl; rfl; omega; intro g w1 hg1 hg2 hrow hb1))
    have hf : FillRow w1 g 5 (bv ys) zs 0 := .start (by rw [hzs]; exact hrow) (by rw [hzl, bv_length, hyl])
    clear hzs hyl hzl hrow hr hl hyg
    go_loopw [6] (fun i wr => ∃ k : Nat, k ≤ 16 ∧ i = .int .i64 k ∧ FillRow wr g 5 (bv ys) zs k ∧ Below w.heap.size w wr) (fun i _ => 16 - (intOf i).toNat)
    case atStart => exact ⟨0, by omega, rfl, hf, hb1⟩
    case round =>
      obtain ⟨k, hk, rfl, hfk, hbk⟩ := hrel
      clear hf
      have hrk := hr0.mono hbk
      by_cases hlt : k < 16
      · have hyk := HYG.out k hlt
        generalize hj : 4 * ((k / 4 + _ * (k % 4)) % 4) + k % 4 = j at hyk
        have hj16 : j < b.length := by rw [HL.out]; omega
        obtain ⟨x, hxe⟩ : ∃ x, x = b.getD j 0 := ⟨_, rfl⟩
        have hx := hb.get j
        rw [← hxe] at hx hyk
        have HYK : (bv ys)[k]? = some (.int .u8 x) := by
          rw [bv_get _ _ (by have := HYL.out; omega), hyk]
        have e1 : ((b.getD j 0 : Nat) : Int) = x := by rw [hxe]
        have hc2 := hfk.cell (by have := HZL.out; omega)
        have hfr2 := hfk.free k
        have HYK' := Lib.hid HYK
        have HJ := Lib.hid hj
        have HE := Lib.hid e1
        have hlt2 := hfk.lt
        have hbs := hbk.size
        clear hxe HYK hj hyk e1
        go_wp2_with (first | (apply wpList_indexB hrk j hj16; rfl; rfl; rfl; rfl; (have := HJ.out; omega); rw [HE.out]; intro p hp hcell; clear hrk))
        go_roundw
        case rel => exact ⟨k + 1, by omega, by go_num, hfk.put HYK'.out, hbk.setCell (by exact hg1) _⟩
        case measure => simp [intOf]; omega
      · go_wp2_with fail
        go_ret
        obtain rfl : k = 16 := by omega
        exact RetS.of_row (hfk.done (by rw [HZL.out]; exact Nat.le_refl _)) hg1 hbk (by rw [HYL.out]; omega) HYL.out.symm

/-- a table, the other way round, of its first k bytes -/
def revT (t : List Nat) : Nat → List Nat
  | 0 => List.replicate 256 0
  | k + 1 => (revT t k).set (t.getD k 0) k
theorem revT_length (t : List Nat) (k : Nat) : (revT t k).length = 256 := by
  induction k with
  | zero => simp [revT]
  | succ k ih => simp [revT, ih]
theorem revT_all : revT sboxL 256 = backL := by decide +kernel
theorem revT_bytes (t : List Nat) : ∀ k, k ≤ 256 → Bytes (revT t k) := by
  intro k
  induction k with
  | zero => intro _ x hx; rw [revT] at hx; have := List.eq_of_mem_replicate hx; omega
  | succ k ih =>
    intro hk x hx
    rw [revT] at hx
    rcases List.mem_or_eq_of_mem_set hx with h | h
    · exact ih (by omega) x h
    · omega
theorem rturn_calls (v : Value) (t : List Nat) (w : World) (ht : Bytes t) (hr : RdB w.heap.size w v t) (hl : t.length = 256) :
    Calls Try.prog 119 #[v] w (RetS (revT t 256) w) := by
  have hr0 := hr
  have HL := Lib.hid hl
  clear hl
  go_enter Try.func119, Try.ntmps119
  go_wp2_with (first | (apply wpList_makeBytes (n := 256); rfl; rfl; rfl; rfl; omega; intro g w1 hg1 hg2 hrow hb1))
  have hrow0 : Row w1 g 5 (bv (revT t 0)).toArray := hrow
  clear hrow hr
  go_loopw [4] (fun i wr => ∃ k : Nat, k ≤ 256 ∧ i = .int .i64 k ∧ Row wr g 5 (bv (revT t k)).toArray ∧ Below w.heap.size w wr) (fun i _ => 256 - (intOf i).toNat)
  case atStart => exact ⟨0, by omega, rfl, hrow0, hb1⟩
  case round =>
    obtain ⟨k, hk, rfl, hfk, hbk⟩ := hrel
    clear hrow0
    have hrk := hr0.mono hbk
    by_cases hlt : k < 256
    · obtain ⟨x, hx⟩ : ∃ x, x = t.getD k 0 := ⟨_, rfl⟩
      have hx8 : x < 256 := hx ▸ ht.get k
      have e1 : ((t.getD k 0 : Nat) : Int) = x := by rw [hx]
      have hnext : revT t (k + 1) = (revT t k).set x k := by rw [hx]; rfl
      have hlen := revT_length t k
      have hc2 : wr.cell? ⟨g, x, none⟩ = some (.int .u8 (((revT t k).getD x 0 : Nat) : Int)) := hfk.cell (by rw [List.getElem?_toArray, bv_get _ _ (by omega)])
      have hfr2 := hfk.free x
      have hset := hfk.set x (.int .u8 (k : Int))
      have hset2 : Row (wr.setCell ⟨g, x, none⟩ (.int .u8 (k : Int))) g 5 (bv (revT t (k + 1))).toArray := by
        rw [hnext]
        rw [List.setIfInBounds_toArray] at hset
        unfold bv at hset ⊢
        rw [List.map_set]
        exact hset
      have hkt : k < t.length := by rw [HL.out]; exact hlt
      have hc : (k : Int) % 256 = k := by omega
      have HS := Lib.hid hset2
      have HE := Lib.hid e1
      have hlt2 := hfk.lt
      have hbs := hbk.size
      clear hset hset2 hnext hx e1 hlen
      go_wp2_with (first | (apply wpList_indexB hrk k hkt; rfl; rfl; rfl; rfl; rfl; rw [HE.out]; intro p hp hcell; clear hrk))
      go_roundw
      case rel => exact ⟨k + 1, by omega, by go_num, HS.out, hbk.setCell (by exact hg1) _⟩
      case measure => simp [intOf]; omega
    · go_wp2_with fail
      go_ret
      obtain rfl : k = 256 := by omega
      exact RetS.of_row hfk hg1 hbk (by rw [revT_length]; omega) (by rw [revT_length])

theorem mixP_put (m c : List Nat) (i : Nat) (hi : i < 4) : (mixP m c i 0).set i (mixA m c i 4) = mixP m c (i + 1) 0 := by
  rw [← mixP_next]
  apply List.ext_getElem?
  intro j
  rw [List.getElem?_set]
  unfold mixP
  by_cases hj : i = j
  · subst hj
    simp [hi]
  · rw [if_neg hj]
    simp only [List.getElem?_map]
    by_cases h4 : j < 4
    · simp [h4, show ¬ j = i by omega]
    · simp [h4]

theorem rturned05_calls (c m : List Nat) (hc : Bytes c) (hm : Bytes m) (hlc : c.length = 4) (hlm : m.length = 4) (w : World) :
    Calls Try.prog 149 #[blk c, blk m] w (RetB (blk (mixC m c)) w) := by
  obtain ⟨vc, hvc⟩ : ∃ vc, vc = blk c := ⟨_, rfl⟩
  obtain ⟨vm, hvm⟩ : ∃ vm, vm = blk m := ⟨_, rfl⟩
  rw [← hvc, ← hvm]
  go_enter Try.func149, Try.ntmps149
  go_wp2_with (first
    | (apply wpList_boxR vc; rfl; rfl; rfl; intro ga w1 hga1 hga2 hra hb1)
    | (apply wpList_boxR vm; rfl; rfl; rfl; intro gb w2 hgb1 hgb2 hrb hb2)
    | (apply wpList_allocR (w := w2) _ _ zinfo_a4; rfl; rfl; intro gz w3 hgz1 hgz2 hrz hb3)
    | (apply wpList_allocR (w := w3) _ _ zinfo_a4; rfl; rfl; intro go w4 hgo1 hgo2 hro hb4; rw [zero4] at hro)
    | (apply wpList_storeRow hro (bv (List.replicate 4 0)).toArray; rfl; rfl; rfl; rfl; exact size_a4; rfl; exact bv_all _; intro w5 hw5 hr5 hs5; have HW5 := Lib.hid hw5; clear hw5))
  have hb5 : Below w4.heap.size w4 w5 ∨ True := .inr trivial
  have hra4 := ((hra.next hb2).next hb3).next hb4
  have hrb4 := (hrb.next hb3).next hb4
  have hrz4 := hrz.next hb4
  have hs1 := hb1.size
  have hs2 := hb2.size
  have hs3 := hb3.size
  have hwb : Below w.heap.size w w4 := hb1.trans ((hb2.mono hs1).trans ((hb3.mono (by omega)).trans (hb4.mono (by omega))))
  have hra5 : Row w5 ga 132 vc.cells := by rw [HW5.out]; exact (heap_setRow_other _ _ _ _ (by omega)).trans hra4
  have hrb5 : Row w5 gb 132 vm.cells := by rw [HW5.out]; exact (heap_setRow_other _ _ _ _ (by omega)).trans hrb4
  have hrz5 : Row w5 gz 132 (Value.agg (Array.replicate 4 (.int .u8 0))).cells := by rw [HW5.out]; exact (heap_setRow_other _ _ _ _ (by omega)).trans hrz4
  have hwb5 : Below w.heap.size w w5 := by rw [HW5.out]; exact hwb.trans (below_row _ (by omega))
  rw [hvc, cells_blk] at hra5
  rw [hvm, cells_blk] at hrb5
  rw [zero4] at hrz5
  rw [← mixP_zero m c] at hr5
  have hgg : ga ≠ go ∧ gb ≠ go ∧ gz ≠ go ∧ w.heap.size ≤ go ∧ w.heap.size ≤ gz := ⟨by omega, by omega, by omega, by omega, by omega⟩
  obtain ⟨n1, n2, n3, b1, b2⟩ := hgg
  have HLC := Lib.hid hlc
  have HLM := Lib.hid hlm
  clear hra hrb hrz hb1 hb2 hb3 hb4 hb5 hs1 hs2 hs3 hga1 hga2 hgb1 hgb2 hgz1 hgz2 hgo1 hgo2 hvc hvm hlc hlm hra4 hrb4 hrz4 hwb hro hs5 HW5
  go_loopw [6] (fun i wr => ∃ n : Nat, n ≤ 4 ∧ i = .int .i64 n ∧ Row wr go 132 (bv (mixP m c n 0)).toArray ∧ Row wr ga 132 (bv c).toArray ∧ Row wr gb 132 (bv m).toArray ∧ Row wr gz 132 (bv (List.replicate 4 0)).toArray ∧ Below w.heap.size w wr) (fun i _ => 4 - (intOf i).toNat)
  case atStart => exact ⟨0, by omega, rfl, hr5, hra5, hrb5, hrz5, hwb5⟩
  case round =>
    obtain ⟨n, hn, rfl, hfk, hak, hbk, hzk, hwk⟩ := hrel
    clear hr5 hra5 hrb5 hrz5 hwb5
    by_cases hlt : n < 4
    · obtain ⟨q1, hq1⟩ : ∃ q, q = (n + 1) % 4 := ⟨_, rfl⟩
      obtain ⟨q2, hq2⟩ : ∃ q, q = (n + 2) % 4 := ⟨_, rfl⟩
      obtain ⟨q3, hq3⟩ : ∃ q, q = (n + 3) % 4 := ⟨_, rfl⟩
      have l1 : (q1 : Int) < 4 := by omega
      have l2 : (q2 : Int) < 4 := by omega
      have l3 : (q3 : Int) < 4 := by omega
      obtain ⟨y0, hy0⟩ : ∃ y, y = c.getD n 0 := ⟨_, rfl⟩
      obtain ⟨y1, hy1⟩ : ∃ y, y = c.getD q1 0 := ⟨_, rfl⟩
      obtain ⟨y2, hy2⟩ : ∃ y, y = c.getD q2 0 := ⟨_, rfl⟩
      obtain ⟨y3, hy3⟩ : ∃ y, y = c.getD q3 0 := ⟨_, rfl⟩
      obtain ⟨x0, hx0⟩ : ∃ x, x = m.getD 0 0 := ⟨_, rfl⟩
      obtain ⟨x1, hx1⟩ : ∃ x, x = m.getD 1 0 := ⟨_, rfl⟩
      obtain ⟨x2, hx2⟩ : ∃ x, x = m.getD 2 0 := ⟨_, rfl⟩
      obtain ⟨x3, hx3⟩ : ∃ x, x = m.getD 3 0 := ⟨_, rfl⟩
      obtain ⟨p0, hp0⟩ : ∃ p, p = rmul x0 y0 := ⟨_, rfl⟩
      obtain ⟨p1, hp1⟩ : ∃ p, p = rmul x1 y1 := ⟨_, rfl⟩
      obtain ⟨p2, hp2⟩ : ∃ p, p = rmul x2 y2 := ⟨_, rfl⟩
      obtain ⟨p3, hp3⟩ : ∃ p, p = rmul x3 y3 := ⟨_, rfl⟩
      obtain ⟨s1, hs1⟩ : ∃ s, s = p0 ^^^ p1 := ⟨_, rfl⟩
      obtain ⟨s2, hs2⟩ : ∃ s, s = s1 ^^^ p2 := ⟨_, rfl⟩
      obtain ⟨s3, hs3⟩ : ∃ s, s = s2 ^^^ p3 := ⟨_, rfl⟩
      have b8 : ∀ x y, rmul x y < 256 := rmul_lt
      have lp0 : p0 < 256 := by rw [hp0]; exact b8 _ _
      have lp1 : p1 < 256 := by rw [hp1]; exact b8 _ _
      have lp2 : p2 < 256 := by rw [hp2]; exact b8 _ _
      have lp3 : p3 < 256 := by rw [hp3]; exact b8 _ _
      have ls1 : s1 < 256 := by rw [hs1]; exact Nat.xor_lt_two_pow (n := 8) lp0 lp1
      have ls2 : s2 < 256 := by rw [hs2]; exact Nat.xor_lt_two_pow (n := 8) ls1 lp2
      have g1 : bits .xor .u8 (p0 : Int) (p1 : Int) = s1 := hs1 ▸ u8_xor_nat p0 p1 lp0 lp1
      have g2 : bits .xor .u8 (s1 : Int) (p2 : Int) = s2 := hs2 ▸ u8_xor_nat s1 p2 ls1 lp2
      have g3 : bits .xor .u8 (s2 : Int) (p3 : Int) = s3 := hs3 ▸ u8_xor_nat s2 p3 ls2 lp3
      have C0 : RowKit.Hid (∀ w, Calls Try.prog 146 #[.int .u8 x0, .int .u8 y0] w (RetP (.int .u8 p0) w)) := Lib.hid (fun w => by rw [hp0]; exact mul05 x0 y0 (hx0 ▸ hm.get 0) (hy0 ▸ hc.get n) w)
      have C1 : RowKit.Hid (∀ w, Calls Try.prog 146 #[.int .u8 x1, .int .u8 y1] w (RetP (.int .u8 p1) w)) := Lib.hid (fun w => by rw [hp1]; exact mul05 x1 y1 (hx1 ▸ hm.get 1) (hy1 ▸ hc.get q1) w)
      have C2 : RowKit.Hid (∀ w, Calls Try.prog 146 #[.int .u8 x2, .int .u8 y2] w (RetP (.int .u8 p2) w)) := Lib.hid (fun w => by rw [hp2]; exact mul05 x2 y2 (hx2 ▸ hm.get 2) (hy2 ▸ hc.get q2) w)
      have C3 : RowKit.Hid (∀ w, Calls Try.prog 146 #[.int .u8 x3, .int .u8 y3] w (RetP (.int .u8 p3) w)) := Lib.hid (fun w => by rw [hp3]; exact mul05 x3 y3 (hx3 ▸ hm.get 3) (hy3 ▸ hc.get q3) w)
      have cc : ∀ k, k < 4 → wr.drew.cell? ⟨ga, k, none⟩ = some (.int .u8 ((c.getD k 0 : Nat) : Int)) := fun k hk => Row.cell (w := wr.drew) hak (by rw [List.getElem?_toArray, bv_get _ _ (by rw [HLC.out]; exact hk)])
      have cm : ∀ k, k < 4 → wr.drew.cell? ⟨gb, k, none⟩ = some (.int .u8 ((m.getD k 0 : Nat) : Int)) := fun k hk => Row.cell (w := wr.drew) hbk (by rw [List.getElem?_toArray, bv_get _ _ (by rw [HLM.out]; exact hk)])
      have c0 := cc n hlt
      have c1 := cc q1 (by omega)
      have c2 := cc q2 (by omega)
      have c3 := cc q3 (by omega)
      have d0 := cm 0 (by omega)
      have d1 := cm 1 (by omega)
      have d2 := cm 2 (by omega)
      have d3 := cm 3 (by omega)
      rw [← hy0] at c0
      rw [← hy1] at c1
      rw [← hy2] at c2
      rw [← hy3] at c3
      rw [← hx0] at d0
      rw [← hx1] at d1
      rw [← hx2] at d2
      rw [← hx3] at d3
      have hnext : mixA m c n 4 = s3 := by
        rw [hs3, hs2, hs1, hp0, hp1, hp2, hp3, hx0, hx1, hx2, hx3, hy0, hy1, hy2, hy3, hq1, hq2, hq3]
        simp only [mixA, Nat.zero_xor, Nat.add_zero, Nat.mod_eq_of_lt hlt]
      have hset := mixP_put m c n hlt
      rw [hnext] at hset
      have hout : wr.drew.cell? ⟨go, n, none⟩ = some (.int .u8 (((mixP m c n 0).getD n 0 : Nat) : Int)) := Row.cell (w := wr.drew) hfk (by rw [List.getElem?_toArray, bv_get _ _ (by rw [mixP_length]; exact hlt)])
      have hfr : wr.drew.frozen? ⟨go, n, none⟩ = false := Row.free (w := wr.drew) hfk n
      obtain ⟨t1, ht1⟩ : ∃ t, t = n + 1 := ⟨_, rfl⟩
      obtain ⟨t2, ht2⟩ : ∃ t, t = n + 2 := ⟨_, rfl⟩
      obtain ⟨t3, ht3⟩ : ∃ t, t = n + 3 := ⟨_, rfl⟩
      have e1 : IntKind.i64.wrap ((n : Int) + 1) = (t1 : Int) := by rw [ht1, IntWalk.i64_in _ (by omega)]; omega
      have e2 : IntKind.i64.wrap ((n : Int) + 2) = (t2 : Int) := by rw [ht2, IntWalk.i64_in _ (by omega)]; omega
      have e3 : IntKind.i64.wrap ((n : Int) + 3) = (t3 : Int) := by rw [ht3, IntWalk.i64_in _ (by omega)]; omega
      have f1 : ((t1 : Int)).tmod 4 = (q1 : Int) := by rw [Int.tmod_eq_emod_of_nonneg (by omega)]; omega
      have f2 : ((t2 : Int)).tmod 4 = (q2 : Int) := by rw [Int.tmod_eq_emod_of_nonneg (by omega)]; omega
      have f3 : ((t3 : Int)).tmod 4 = (q3 : Int) := by rw [Int.tmod_eq_emod_of_nonneg (by omega)]; omega
      have HSET := Lib.hid hset
      clear hset hnext hs1 hs2 hs3 hp0 hp1 hp2 hp3 hx0 hx1 hx2 hx3 hy0 hy1 hy2 hy3 hq1 hq2 hq3 ht1 ht2 ht3 cc cm b8
      go_wp2_with fail
      go_still_tail 35, (by kernel_rfl)
      still_call ((C0.out _).mono (fun e w'' h => ⟨h.1, h.2.symm⟩))
      repeat still_step
      still_call ((C1.out _).mono (fun e w'' h => ⟨h.1, h.2.symm⟩))
      repeat still_step
      still_call ((C2.out _).mono (fun e w'' h => ⟨h.1, h.2.symm⟩))
      repeat still_step
      still_call ((C3.out _).mono (fun e w'' h => ⟨h.1, h.2.symm⟩))
      repeat still_step
      refine wpStill_nil ?_
      change wpList _ _ _ _ _ wr.drew
      have hfid : Row wr.drew go 132 (bv (mixP m c n 0)).toArray := hfk
      have haid : Row wr.drew ga 132 (bv c).toArray := hak
      have hbid : Row wr.drew gb 132 (bv m).toArray := hbk
      have hzid : Row wr.drew gz 132 (bv (List.replicate 4 0)).toArray := hzk
      have hwid : Below w.heap.size w wr.drew := hwk.drew
      clear hfk hak hbk hzk hwk e1 e2 e3 f1 f2 f3
      generalize wr.drew = wd at *
      go_wp2
      go_roundw
      case rel =>
        refine ⟨n + 1, by omega, by go_num, ?_, haid.other n1 _, hbid.other n2 _, hzid.other n3 _, hwid.setCell (by exact b1) _⟩
        have h := hfid.set n (.int .u8 (s3 : Int))
        rw [List.setIfInBounds_toArray] at h
        rw [← HSET.out]
        unfold bv at h ⊢
        rw [List.map_set]
        exact h
      case measure => simp [intOf]; omega
    · obtain rfl : n = 4 := by omega
      rw [mixP_full] at hfk
      have hyl : (bv (mixC m c)).length = 4 := by rw [bv_length, mixC_length]
      generalize mixC m c = ys at *
      go_wp2_with (first
        | (apply wpList_loadRow hfk hyl Try.underlying132 size_a4; rfl; rfl; rfl)
        | (apply wpList_storeRow hzk (bv ys).toArray; rfl; rfl; rfl; rfl; (rw [List.size_toArray, hyl]; exact size_a4); (rw [List.size_toArray, List.size_toArray, hyl, bv_length, List.length_replicate]); exact bv_all ys; intro w5 hw5 hr5 hs5))
      refine ret_row rfl gz _ (bv ys).toArray (0, 0) _ rfl hr5 rfl Try.underlying132 rfl (by rw [List.size_toArray, hyl]; exact size_a4) ?_
      rw [hw5]
      exact ⟨rfl, hwk.trans (below_row _ b2)⟩
end Go.Proofs.Ytfinekmegiengaa
/- The walks of the references of layer 7: a block's columns, mixed. -/
namespace Go.Proofs.Ytfinekmegiengaa
open Go.RowKit Nep
set_option maxRecDepth 100000
set_option linter.unusedVariables false
set_option linter.unusedSimpArgs false
set_option maxHeartbeats 1000000
attribute [local go_sem ↓] Go.wp_at_zero Go.wp_at_succ

theorem rmixed_calls (v : Value) (b : List Nat) (m0 m1 m2 m3 : Nat) (w : World) (hm : Bytes [m0, m1, m2, m3]) (hb : Bytes b) (hr : RdB w.heap.size w v b) (hl : b.length = 16) :
    Calls Try.prog 116 #[v, blk [m0, m1, m2, m3]] w (RetS (mixL [m0, m1, m2, m3] b) w) := by
  obtain ⟨ad, cap, hv, hcap, hB, hcells⟩ := RdS.addr hr (by intro h0; have := bv_length b; rw [h0] at this; simp at this; omega)
  rw [hl] at hv hcap
  subst hv
  obtain ⟨vm, hvm⟩ : ∃ vm, vm = blk [m0, m1, m2, m3] := ⟨_, rfl⟩
  have HL := Lib.hid hl
  have HC : RowKit.Hid (∀ i, i < 16 → w.cell? (ad.add i) = some (.int .u8 ((b.getD i 0 : Nat) : Int))) := Lib.hid (fun i hi => hcells i _ (bv_get b i (by omega)))
  rw [← hvm]
  clear hl hcells
  go_enter Try.func116, Try.ntmps116
  go_wp2_with (first
    | (apply wpList_boxR vm; rfl; rfl; rfl; intro gm w1 hgm1 hgm2 hrm hb1)
    | (apply wpList_buildB []; exact of_decide_eq_true rfl; rfl; rfl; rfl; intro g0 w0 hg01 hg02 hown0 hb0))
  have hrm0 : Row w0 gm 132 (blk [m0, m1, m2, m3]).cells := by rw [← hvm]; exact hrm.next hb0
  have hown1 := hown0
  have hs01 := hb0.size
  have hs11 := hb1.size
  obtain ⟨B1, hB1⟩ : ∃ n, n = w1.heap.size := ⟨_, rfl⟩
  rw [← hB1] at hown1 hs01 hs11 hgm2
  have hb2 := hb1.trans (hb0.mono hb1.size)
  clear hr hrm hown0 hb0 hvm hg01 hb1 hB1
  go_loopw [5, 6] (fun s i wr => ∃ k : Nat, k ≤ 4 ∧ i = .int .i64 k ∧ wr.ownsRow B1 5 1 s (mixN [m0, m1, m2, m3] b k).length (bv (mixN [m0, m1, m2, m3] b k)) ∧ B1 ≤ wr.heap.size ∧ Row wr gm 132 #[.int .u8 m0, .int .u8 m1, .int .u8 m2, .int .u8 m3] ∧ Below w.heap.size w wr) (fun _ i _ => 4 - (intOf i).toNat)
  case atStart => exact ⟨0, by omega, rfl, hown1, hs01, hrm0, hb2⟩
  case round =>
    obtain ⟨k, hk, rfl, hown, hB1k, hrk, hbk⟩ := hrel
    clear hown1 hrm0 hb2
    have hbs := hbk.size
    have hml : (mixN [m0, m1, m2, m3] b k).length = 4 * k := mixN_length _ _ _
    by_cases hlt : k < 4
    · obtain ⟨b0, b1, b2, b3, hbe⟩ := four (l := (b.drop (4 * k)).take 4) (by rw [List.length_take, List.length_drop, HL.out]; omega)
      have hg : ∀ i, i < 4 → b.getD (4 * k + i) 0 = ((b.drop (4 * k)).take 4).getD i 0 := fun i hi => by
        simp [List.getElem?_take, hi, List.getElem?_drop]
      have h0 := hg 0 (by omega)
      have h1 := hg 1 (by omega)
      have h2 := hg 2 (by omega)
      have h3 := hg 3 (by omega)
      rw [hbe] at h0 h1 h2 h3
      have hB4 : Bytes [b0, b1, b2, b3] := hbe ▸ (hb.drop _).take _
      obtain ⟨r0, r1, r2, r3, hre⟩ := four (mixC_length [m0, m1, m2, m3] [b0, b1, b2, b3])
      have hnext : mixN [m0, m1, m2, m3] b (k + 1) = mixN [m0, m1, m2, m3] b k ++ [r0, r1, r2, r3] := by
        rw [mixN, hbe, hre]
      have C : RowKit.Hid (∀ w, Calls Try.prog 149 #[.agg #[.int .u8 b0, .int .u8 b1, .int .u8 b2, .int .u8 b3], .agg #[.int .u8 m0, .int .u8 m1, .int .u8 m2, .int .u8 m3]] w (RetB (.agg #[.int .u8 r0, .int .u8 r1, .int .u8 r2, .int .u8 r3]) w)) := Lib.hid (fun w => by
        have h := rturned05_calls [b0, b1, b2, b3] [m0, m1, m2, m3] hB4 hm rfl rfl w
        rw [hre] at h
        exact h)
      have cell : ∀ i, i < 16 → wr.drew.cell? (ad.add i) = some (.int .u8 ((b.getD i 0 : Nat) : Int)) := fun i hi => (hbk.cell (by rw [blk_add]; exact hB)).trans (HC.out i hi)
      have c0 := cell (4 * k + 0) (by omega)
      have c1 := cell (4 * k + 1) (by omega)
      have c2 := cell (4 * k + 2) (by omega)
      have c3 := cell (4 * k + 3) (by omega)
      rw [h0] at c0
      rw [h1] at c1
      rw [h2] at c2
      rw [h3] at c3
      obtain ⟨q, hq⟩ : ∃ q, q = 4 * k := ⟨_, rfl⟩
      obtain ⟨q1, hq1⟩ : ∃ q, q = 4 * k + 1 := ⟨_, rfl⟩
      obtain ⟨q2, hq2⟩ : ∃ q, q = 4 * k + 2 := ⟨_, rfl⟩
      obtain ⟨q3, hq3⟩ : ∃ q, q = 4 * k + 3 := ⟨_, rfl⟩
      have e0 : IntKind.i64.wrap (4 * (k : Int)) = (q : Int) := by rw [hq, IntWalk.i64_in _ (by omega)]; omega
      have e1 : IntKind.i64.wrap ((q : Int) + 1) = (q1 : Int) := by rw [hq1, hq, IntWalk.i64_in _ (by omega)]; omega
      have e2 : IntKind.i64.wrap ((q : Int) + 2) = (q2 : Int) := by rw [hq2, hq, IntWalk.i64_in _ (by omega)]; omega
      have e3 : IntKind.i64.wrap ((q : Int) + 3) = (q3 : Int) := by rw [hq3, hq, IntWalk.i64_in _ (by omega)]; omega
      rw [Nat.add_zero, ← hq] at c0
      rw [← hq1] at c1
      rw [← hq2] at c2
      rw [← hq3] at c3
      have l0 : (q : Int) < 16 := by omega
      have l1 : (q1 : Int) < 16 := by omega
      have l2 : (q2 : Int) < 16 := by omega
      have l3 : (q3 : Int) < 16 := by omega
      simp only [List.getD_cons_zero, List.getD_cons_succ] at c0 c1 c2 c3
      have d0 : wr.drew.cell? ⟨gm, 0, none⟩ = some (.int .u8 m0) := Row.cell (w := wr.drew) hrk rfl
      have d1 : wr.drew.cell? ⟨gm, 1, none⟩ = some (.int .u8 m1) := Row.cell (w := wr.drew) hrk rfl
      have d2 : wr.drew.cell? ⟨gm, 2, none⟩ = some (.int .u8 m2) := Row.cell (w := wr.drew) hrk rfl
      have d3 : wr.drew.cell? ⟨gm, 3, none⟩ = some (.int .u8 m3) := Row.cell (w := wr.drew) hrk rfl
      have HN := Lib.hid hnext
      have HML := Lib.hid hml
      have hBr : ad.block < wr.heap.size := Nat.lt_of_lt_of_le hB hbs
      have hgr := hrk.lt
      have up : ∀ {p : Addr} {x : Value}, wr.drew.cell? p = some x → p.block < wr.heap.size → ∀ w', Below wr.heap.size wr.drew w' → w'.cell? p = some x := fun hc hp w' hb => (hb.cell hp).trans hc
      have K0 := up c0 (by rw [blk_add]; exact hBr)
      have K1 := up c1 (by rw [blk_add]; exact hBr)
      have K2 := up c2 (by rw [blk_add]; exact hBr)
      have K3 := up c3 (by rw [blk_add]; exact hBr)
      have J0 := up d0 hgr
      have J1 := up d1 hgr
      have J2 := up d2 hgr
      have J3 := up d3 hgr
      have hS0 := Below.refl wr.heap.size wr.drew
      clear up c0 c1 c2 c3 d0 d1 d2 d3
      clear hnext hml h0 h1 h2 h3 hq hq1 hq2 hq3 cell hg hbe hre
      go_wp2_with fail
      go_region_held3 (fun w' => Below wr.heap.size wr.drew w')
        (first | exact Below.refl _ _ | exact (‹Below _ wr.drew _›).trans (hb3.mono (‹Below _ wr.drew _›).size) | exact (‹Below _ wr.drew _›).alloc (‹Below _ wr.drew _›).size _ | (refine Below.setCell (Below.setCell (Below.setCell (Below.setCell (‹Below _ wr.drew _›) ?_ _) ?_ _) ?_ _) ?_ _ <;> first | exact Nat.le_refl _ | exact hb3.size))
        (first | (go_at_call 149; refine (C.out _).mono ?_; rintro e w3 ⟨rfl, hb3⟩; obtain ⟨hq1, hq2⟩ := bcell hb3))
      all_goals
        have hH := (Below.refl wr.heap.size wr).drew.trans (‹Below _ wr.drew _›)
        have hown2 := own_next hown hH
        have hrk2 := hrk.next hH
        have hbk2 := hbk.trans (hH.mono hbs)
        have hbs2 := hbk2.size
        have hB2 := Nat.le_trans hB1k hH.size
        go_wp2_with (first
          | (apply wpList_buildB [r0, r1, r2, r3]; exact of_decide_eq_true rfl; rfl; rfl; rfl; intro gb wb hgb1 hgb2 hob hbb)
          | (at_builtin; apply wpList_appendB (own_next hown2 hbb) (RdB.of_own hob); rfl; rfl; rfl; rfl; rw [HML.out]; simp; omega; exact Nat.le_trans hB2 hbb.size; intro v' w' hown' hgr'))
        have hb' := below_own hgr' (own_next hown2 hbb) hs11 (Nat.le_trans hbs2 hbb.size)
        have hrk3 := hrk2.next hbb
        go_roundw
        case rel => exact ⟨k + 1, by omega, by go_num, by rw [HN.out]; exact hown', Nat.le_trans (Nat.le_trans hB2 hbb.size) hgr'.size, hrk3.grown hgr' (fun h => by have := (own_next hown2 hbb).lt _ h.symm; omega), (hbk2.trans (hbb.mono hbs2)).trans hb'⟩
        case measure => simp [intOf]; omega
    · go_wp2_with fail
      go_ret
      obtain rfl : k = 4 := by omega
      exact ⟨_, rfl, own_base hown hs11, hbk⟩
end Go.Proofs.Ytfinekmegiengaa
/- The walk of the reference of layer 7: a key's words. -/
namespace Go.Proofs.Ytfinekmegiengaa
open Go.RowKit Nep
set_option maxRecDepth 100000
set_option linter.unusedVariables false
set_option linter.unusedSimpArgs false
set_option maxHeartbeats 1000000

theorem expL_take (key : List Nat) (n m : Nat) (h : n ≤ m) : (expL key m).take n = expL key n := by
  induction m with
  | zero => obtain rfl : n = 0 := by omega
            rfl
  | succ m ih =>
    rcases Nat.lt_or_ge m n with h1 | h1
    · obtain rfl : n = m + 1 := by omega
      exact List.take_of_length_le (by rw [expL_length]; exact Nat.le_refl _)
    · rw [expL, List.take_append_of_le_length (by rw [expL_length]; exact h1), ih h1]
theorem rexpand_calls (v1 v2 : Value) (key t : List Nat) (w : World) (hb : Bytes key) (hr1 : RdB w.heap.size w v1 key) (h32 : key.length = 32) (hr2 : RdB w.heap.size w v2 t) (ht : t = sboxL) :
    Calls Try.prog 39 #[v1, v2] w (RetL (expL key 60) w) := by
  have htl : t.length = 256 := by rw [ht]; decide +kernel
  have htg : ∀ x, t.getD x 0 = sb x := fun x => by rw [ht]; rfl
  clear ht
  obtain ⟨Ws, hWs⟩ : ∃ Ws, Ws = expL key 60 := ⟨_, rfl⟩
  have hWl : Ws.length = 60 := by rw [hWs, expL_length]
  have hW4 : ∀ i, i < 60 → Word4 (Ws.getD i []) := fun i hi => by rw [hWs]; exact expL_at key h32 hb i hi
  have hWlo : ∀ i, i < 8 → Ws.getD i [] = (key.drop (4 * i)).take 4 := fun i hi => by
    rw [hWs, expL_get key i 60 (by omega)]; unfold nextW; rw [if_pos hi]
  have hWhi : ∀ i, 8 ≤ i → i < 60 → Ws.getD i [] = xorL (Ws.getD (i - 8) []) (gW i (Ws.getD (i - 1) [])) := fun i h8 hi => by
    rw [hWs, expL_get key i 60 hi, ← getD_take _ i (i - 8) [] (by omega), ← getD_take _ i (i - 1) [] (by omega), expL_take key i 60 (by omega)]
    unfold nextW; rw [if_neg (by omega)]
  have HWL := Lib.hid hWl
  have HW4 := Lib.hid hW4
  have HLO := Lib.hid hWlo
  have HHI := Lib.hid hWhi
  have HTG := Lib.hid htg
  have HTL := Lib.hid htl
  have H32 := Lib.hid h32
  obtain ⟨at2, cap2, hv2, hcap2, hB2, hcells2⟩ := RdS.addr hr2 (by intro h0; have := bv_length t; rw [h0] at this; simp at this; omega)
  have HC2 : RowKit.Hid (∀ i, i < 256 → w.cell? (at2.add i) = some (.int .u8 (sb i))) := Lib.hid (fun i hi => by
    have h := hcells2 i _ (bv_get t i (by omega))
    rwa [htg] at h)
  rw [htl] at hv2
  subst hv2
  rw [← hWs]
  have hr10 := hr1
  clear hWs hWl hW4 hWlo hWhi htg htl h32 hcells2 hr2
  go_enter Try.func39, Try.ntmps39
  go_wp2_with (first | (apply wpList_buildL0; rfl; rfl; rfl; intro g0 w0 hg01 hg02 hown0 hb0))
  clear hr1
  go_loopw [5, 6] (fun s i wr => ∃ k : Nat, k ≤ 60 ∧ i = .int .i64 k ∧ OwnL w.heap.size wr s (Ws.take k) ∧ Below w.heap.size w wr) (fun _ i _ => 60 - (intOf i).toNat)
  case atStart => exact ⟨0, by omega, rfl, hown0, hb0⟩
  case round =>
    obtain ⟨k, hk, rfl, hown, hbk⟩ := hrel
    clear hown0 hb0
    have hbs := hbk.size
    by_cases hlt : k < 60
    · have hs := take_succ_getL Ws k [] (by rw [HWL.out]; exact hlt)
      have htl : (Ws.take k).length = k := by rw [List.length_take, HWL.out]; omega
      have HS := Lib.hid hs
      have HTK := Lib.hid htl
      clear hs htl
      by_cases h8 : k < 8
      · have hrk := hr10.mono hbk
        have hsl : ((key.drop (4 * k)).take (4 * k + 4 - 4 * k)) = Ws.getD k [] := by rw [HLO.out k h8, show 4 * k + 4 - 4 * k = 4 from by omega]
        have HSL := Lib.hid hsl
        have hkl : 4 * k + 4 ≤ key.length := by rw [H32.out]; omega
        clear hsl
        go_wp2_with (first
          | (apply wpList_cutB hrk (4 * k) (4 * k + 4); rfl; rfl; rfl; exact .inr ⟨_, _, rfl, by omega⟩; exact .inr ⟨_, _, rfl, by omega⟩; exact .inl rfl; omega; omega; intro v' hr'; rw [HSL.out] at hr')
          | (apply wpList_buildL1 v'; (obtain ⟨_, ay, cy, hye, _⟩ := hr'; rw [hye]; rfl); rfl; rfl; rfl; intro gb wb hgb1 hgb2 hob hbb)
          | (at_builtin; apply wpList_appendL (hown.next hbb) ((hr'.up hbs).next hbb) (fun g hg => hr'.apart (hown.block_lt g hg).1) hob; rfl; rfl; rfl; rfl; rw [HTK.out]; omega; exact Nat.le_trans hbs hbb.size; intro v2 w2 hown' hgr'))
        go_roundw
        case rel => exact ⟨k + 1, by omega, by go_num, by rw [HS.out]; exact hown', hbk.trans ((hbb.mono hbs).trans (below_ownL hgr' (hown.next hbb) (Nat.le_refl _) (Nat.le_trans hbs hbb.size)))⟩
        case measure => simp [intOf]; omega
      · have hw1 := HW4.out (k - 1) (by omega)
        have hw8 := HW4.out (k - 8) (by omega)
        have hhi := HHI.out k (by omega) hlt
        have hg1 := getD_take Ws k (k - 1) [] (by omega)
        have hg8 := getD_take Ws k (k - 8) [] (by omega)
        obtain ⟨z, hz⟩ : ∃ z, z = Ws.getD (k - 8) [] := ⟨_, rfl⟩
        obtain ⟨y0, y1, y2, y3, hye⟩ := four hw1.1
        rw [← hz] at hw8 hhi hg8
        rw [hye] at hw1 hhi hg1
        have hy0 := hw1.2 y0 (by simp)
        have hy1 := hw1.2 y1 (by simp)
        have hy2 := hw1.2 y2 (by simp)
        have hy3 := hw1.2 y3 (by simp)
        obtain ⟨x, hx⟩ : ∃ x, x = gW k [y0, y1, y2, y3] := ⟨_, rfl⟩
        have hxw : Word4 x := by rw [hx]; exact gW_word hw1 hlt
        rw [← hx] at hhi
        obtain ⟨r, hr⟩ : ∃ r, r = Ws.getD k [] := ⟨_, rfl⟩
        rw [← hr] at hhi
        have CX : RowKit.Hid (∀ va vb w, RdB w.heap.size w va z → RdB w.heap.size w vb x → Calls Try.prog 105 #[va, vb] w (RetS r w)) := Lib.hid (fun va vb w ha hb' => hhi ▸ rxor_calls va vb z x w hw8.2 hxw.2 ha hb' (by rw [hw8.1, hxw.1]) (by rw [hw8.1]; omega))
        have HG1 := Lib.hid hg1
        have HG8 := Lib.hid hg8
        have HR := Lib.hid hr
        have HSR : RowKit.Hid (Ws.take (k + 1) = Ws.take k ++ [r]) := Lib.hid (by rw [HS.out, hr])
        have i1 : k - 1 < (Ws.take k).length := by rw [HTK.out]; omega
        have i8 : k - 8 < (Ws.take k).length := by rw [HTK.out]; omega
        have k1 : (k : Int) - 1 = ((k - 1 : Nat) : Int) := by omega
        have k8 : (k : Int) - 8 = ((k - 8 : Nat) : Int) := by omega
        have K1 := Lib.hid k1
        have K8 := Lib.hid k8
        clear hhi hg1 hg8 hz hye hr k1 k8
        have cell2 : ∀ i, i < 256 → ∀ w2, Below wr.heap.size wr w2 → w2.cell? (at2.add i) = some (.int .u8 (sb i)) := fun i hi w2 h2 => ((h2.cell (by rw [blk_add]; exact Nat.lt_of_lt_of_le hB2 hbs)).trans (hbk.cell (by rw [blk_add]; exact hB2))).trans (HC2.out i hi)
        rcases (show k % 8 = 0 ∨ k % 8 = 4 ∨ (k % 8 ≠ 0 ∧ k % 8 ≠ 4) from by omega) with h0 | h4 | hn
        · have hx' : x = [sb y1 ^^^ pw (k / 8 - 1), sb y2, sb y3, sb y0] := by rw [hx]; unfold gW; rw [if_pos h0]; rfl
          have hm0 : ((k : Int) % 8 == 0) = true := by simp; omega
          have HX := Lib.hid hx'
          clear hx hx'
          go_wp2_with (first
            | (apply wpList_buildB []; exact of_decide_eq_true rfl; rfl; rfl; rfl; intro ge we hge1 hge2 hoe hbe)
            | (apply wpList_indexL (hown.next hbe).rd (k - 1) i1; rfl; rfl; rfl; rfl; exact K1.out; intro p1 yv hp1 hc1 hry; rw [HG1.out] at hry)
            | (at_builtin; apply wpList_appendB hoe hry; rfl; rfl; rfl; rfl; exact of_decide_eq_true rfl; (have := hbe.size; omega); intro v2 w2 ho2 hg2; have hb2 : Below wr.heap.size wr w2 := hbe.trans (below_own hg2 hoe (Nat.le_refl _) hbe.size); have hs2 := hb2.size; have hown2 := hown.next hb2; have ho2' : w2.ownsRow wr.heap.size 5 1 v2 4 (bv [y0, y1, y2, y3]) := ho2; clear ho2; obtain ⟨gx, cx, rfl⟩ := own_slice ho2' (by omega)))
          have cy : ∀ i, i < 4 → w2.drew.cell? ⟨gx, i, none⟩ = some (.int .u8 (([y0, y1, y2, y3].getD i 0 : Nat) : Int)) := fun i hi => by
            have h := ho2'.cells (g := gx) rfl i _ (bv_get [y0, y1, y2, y3] i hi)
            rw [Addr.add_lit, Nat.zero_add] at h
            exact h
          have cy0 := cy 0 (by omega)
          have cy1 := cy 1 (by omega)
          have cy2 := cy 2 (by omega)
          have cy3 := cy 3 (by omega)
          simp only [List.getD_cons_zero, List.getD_cons_succ] at cy0 cy1 cy2 cy3
          have ct0 : w2.drew.cell? (at2.add y0) = some (.int .u8 (sb y0)) := cell2 y0 hy0 w2 hb2
          have ct1 : w2.drew.cell? (at2.add y1) = some (.int .u8 (sb y1)) := cell2 y1 hy1 w2 hb2
          have ct2 : w2.drew.cell? (at2.add y2) = some (.int .u8 (sb y2)) := cell2 y2 hy2 w2 hb2
          have ct3 : w2.drew.cell? (at2.add y3) = some (.int .u8 (sb y3)) := cell2 y3 hy3 w2 hb2
          have j0 : (y0 : Int) < 256 := by omega
          have j1 : (y1 : Int) < 256 := by omega
          have j2 : (y2 : Int) < 256 := by omega
          have j3 : (y3 : Int) < 256 := by omega
          clear cell2 cy
          go_still_tail 24, (by kernel_rfl)
          change wpList _ _ _ _ _ w2.drew
          have hb2d : Below wr.heap.size wr w2.drew := hb2.drew
          have hown2d : OwnL w.heap.size w2.drew _ (Ws.take k) := hown2
          clear cy0 cy1 cy2 cy3 ct0 ct1 ct2 ct3 hown2 ho2' hb2 j0 j1 j2 j3 hs2 hg2
          generalize w2.drew = wd at *
          have hsd := hb2d.size
          go_wp2_with (first
            | (apply wpList_buildB [sb y1, sb y2, sb y3, sb y0]; exact of_decide_eq_true rfl; rfl; rfl; rfl; intro g3 w3 hg31 hg32 ho3 hb3))
          obtain ⟨d, hd⟩ : ∃ d, d = k / 8 := ⟨_, rfl⟩
          obtain ⟨m, hm⟩ : ∃ m, m = k / 8 - 1 := ⟨_, rfl⟩
          obtain ⟨p, hp⟩ : ∃ p, p = pw m := ⟨_, rfl⟩
          obtain ⟨s1, hs1⟩ : ∃ s, s = sb y1 := ⟨_, rfl⟩
          obtain ⟨u, hu⟩ : ∃ u, u = s1 ^^^ p := ⟨_, rfl⟩
          have CP : RowKit.Hid (∀ w, Calls Try.prog 104 #[.int .u8 2, .int .i64 (m : Int)] w (RetP (.int .u8 p) w)) := Lib.hid (fun w => hp ▸ rpow_calls m rfl rfl (by omega) w)
          have hp8 : p < 256 := by
            have : pw m ≤ pw 6 := pw_le _ _ (by omega)
            have h6 : pw 6 = 64 := by decide
            omega
          have hs8 : s1 < 256 := by rw [hs1]; exact sb_lt _
          have hu8 : bits .xor .u8 (s1 : Int) (p : Int) = u := hu ▸ u8_xor_nat s1 p hs8 hp8
          have f1 : ((k : Int)).tdiv 8 = (d : Int) := by rw [Int.tdiv_eq_ediv_of_nonneg (by omega)]; omega
          have f2 : IntKind.i64.wrap (d : Int) = (d : Int) := IntWalk.i64_in _ (by omega)
          have f3 : IntKind.i64.wrap ((d : Int) - 1) = (m : Int) := by rw [IntWalk.i64_in _ (by omega)]; omega
          have hrow3 : Row w3.drew g3 5 (bv [s1, sb y2, sb y3, sb y0]).toArray := hs1 ▸ own_row ho3
          have c0 : w3.drew.cell? ⟨g3, 0, none⟩ = some (.int .u8 s1) := hrow3.cell rfl
          have fr : w3.drew.frozen? ⟨g3, 0, none⟩ = false := hrow3.free 0
          have hX2 : x = [u, sb y2, sb y3, sb y0] := by rw [HX.out, hu, hs1, hp, hm]
          replace HX := Lib.hid hX2
          clear hd hm hp hs1 hu hX2
          go_still_tail 10, (by kernel_rfl)
          still_call ((CP.out _).mono (fun e w'' h => ⟨h.1, h.2.symm⟩))
          repeat still_step
          refine wpStill_nil ?_
          change wpList _ _ _ _ _ w3.drew
          have hb3d : Below wd.heap.size wd w3.drew := hb3.drew
          clear hb3 ho3 f1 f2 f3
          generalize w3.drew = w4 at *
          have hset := hrow3.set 0 (.int .u8 (u : Int))
          have hset2 : Row (w4.setCell ⟨g3, 0, none⟩ (.int .u8 (u : Int))) g3 5 (bv [u, sb y2, sb y3, sb y0]).toArray := hset
          have hbd5 : Below wd.heap.size wd (w4.setCell ⟨g3, 0, none⟩ (.int .u8 (u : Int))) := hb3d.setCell (by show _ ≤ g3; omega) _
          have hown3 := hown2d.next hbd5
          have hbw3 := hb2d.trans (hbd5.mono hsd)
          have hs3 := hbw3.size
          have hrx := (rdb_of_row hset2 (n := 4) rfl).up hset2.lt
          clear hset hset2
          go_wp2_with (first
            | (apply wpList_indexL hown3.rd (k - 8) i8; rfl; rfl; rfl; rfl; exact K8.out; intro p8 zv hp8 hc8 hrz; rw [HG8.out] at hrz)
            | (go_at_call 105; refine (CX.out _ _ _ hrz (by rw [HX.out]; exact hrx)).mono ?_; rintro e w5 ⟨v5, rfl, ho5, hb5⟩; have hown5 := hown3.next hb5; have hs5 := hb5.size)
            | (apply wpList_buildL1 v5; (obtain ⟨_, ay, cy, hye, _⟩ := RdB.of_own ho5; rw [hye]; rfl); rfl; rfl; rfl; intro gb wb hgb1 hgb2 hob hbb)
            | (at_builtin; apply wpList_appendL (hown5.next hbb) ((RdB.of_own ho5).next hbb) (fun g hg => own_apart ho5 (hown3.block_lt g hg).2) hob; rfl; rfl; rfl; rfl; rw [HTK.out]; omega; (have := hbb.size; omega); intro v6 w6 hown' hgr'))
          go_roundw
          case rel => exact ⟨k + 1, by omega, by go_num, by rw [HSR.out]; exact hown', (hbk.trans (hbw3.mono hbs)).trans ((hb5.mono (by omega)).trans ((hbb.mono (by omega)).trans (below_ownL hgr' (hown5.next hbb) (Nat.le_refl _) (by have := hbb.size; omega))))⟩
          case measure => simp [intOf]; omega
        · have hx' : x = [sb y0, sb y1, sb y2, sb y3] := by rw [hx]; unfold gW; rw [if_neg (by omega), if_pos h4]; rfl
          have hm0 : ((k : Int) % 8 == 0) = false := by simp; omega
          have hm4 : ((k : Int) % 8 == 4) = true := by simp; omega
          have HX := Lib.hid hx'
          clear hx hx'
          go_wp2_with (first
            | (apply wpList_buildB []; exact of_decide_eq_true rfl; rfl; rfl; rfl; intro ge we hge1 hge2 hoe hbe)
            | (apply wpList_indexL (hown.next hbe).rd (k - 1) i1; rfl; rfl; rfl; rfl; exact K1.out; intro p1 yv hp1 hc1 hry; rw [HG1.out] at hry)
            | (at_builtin; apply wpList_appendB hoe hry; rfl; rfl; rfl; rfl; exact of_decide_eq_true rfl; (have := hbe.size; omega); intro v2 w2 ho2 hg2; have hb2 : Below wr.heap.size wr w2 := hbe.trans (below_own hg2 hoe (Nat.le_refl _) hbe.size); have hs2 := hb2.size; have hown2 := hown.next hb2; have ho2' : w2.ownsRow wr.heap.size 5 1 v2 4 (bv [y0, y1, y2, y3]) := ho2; clear ho2; obtain ⟨gx, cx, rfl⟩ := own_slice ho2' (by omega)))
          have cy : ∀ i, i < 4 → w2.drew.cell? ⟨gx, i, none⟩ = some (.int .u8 (([y0, y1, y2, y3].getD i 0 : Nat) : Int)) := fun i hi => by
            have h := ho2'.cells (g := gx) rfl i _ (bv_get [y0, y1, y2, y3] i hi)
            rw [Addr.add_lit, Nat.zero_add] at h
            exact h
          have cy0 := cy 0 (by omega)
          have cy1 := cy 1 (by omega)
          have cy2 := cy 2 (by omega)
          have cy3 := cy 3 (by omega)
          simp only [List.getD_cons_zero, List.getD_cons_succ] at cy0 cy1 cy2 cy3
          have ct0 : w2.drew.cell? (at2.add y0) = some (.int .u8 (sb y0)) := cell2 y0 hy0 w2 hb2
          have ct1 : w2.drew.cell? (at2.add y1) = some (.int .u8 (sb y1)) := cell2 y1 hy1 w2 hb2
          have ct2 : w2.drew.cell? (at2.add y2) = some (.int .u8 (sb y2)) := cell2 y2 hy2 w2 hb2
          have ct3 : w2.drew.cell? (at2.add y3) = some (.int .u8 (sb y3)) := cell2 y3 hy3 w2 hb2
          have j0 : (y0 : Int) < 256 := by omega
          have j1 : (y1 : Int) < 256 := by omega
          have j2 : (y2 : Int) < 256 := by omega
          have j3 : (y3 : Int) < 256 := by omega
          clear cell2 cy
          go_still_tail 24, (by kernel_rfl)
          change wpList _ _ _ _ _ w2.drew
          have hb2d : Below wr.heap.size wr w2.drew := hb2.drew
          have hown2d : OwnL w.heap.size w2.drew _ (Ws.take k) := hown2
          clear cy0 cy1 cy2 cy3 ct0 ct1 ct2 ct3 hown2 ho2' hb2 j0 j1 j2 j3 hs2 hg2
          generalize w2.drew = wd at *
          have hsd := hb2d.size
          go_wp2_with (first
            | (apply wpList_buildB [sb y0, sb y1, sb y2, sb y3]; exact of_decide_eq_true rfl; rfl; rfl; rfl; intro g3 w3 hg31 hg32 ho3 hb3; have hbw3 := hb2d.trans (hb3.mono hsd); have hs3 := hb3.size; have hown3 := hown2d.next hb3; have hrx : RdB w3.heap.size w3 _ [sb y0, sb y1, sb y2, sb y3] := RdB.of_own ho3)
            | (apply wpList_indexL hown3.rd (k - 8) i8; rfl; rfl; rfl; rfl; exact K8.out; intro p8 zv hp8 hc8 hrz; rw [HG8.out] at hrz)
            | (go_at_call 105; refine (CX.out _ _ _ hrz (by rw [HX.out]; exact hrx)).mono ?_; rintro e w5 ⟨v5, rfl, ho5, hb5⟩; have hown5 := hown3.next hb5; have hs5 := hb5.size)
            | (apply wpList_buildL1 v5; (obtain ⟨_, ay, cy, hye, _⟩ := RdB.of_own ho5; rw [hye]; rfl); rfl; rfl; rfl; intro gb wb hgb1 hgb2 hob hbb)
            | (at_builtin; apply wpList_appendL (hown5.next hbb) ((RdB.of_own ho5).next hbb) (fun g hg => own_apart ho5 (hown3.block_lt g hg).2) hob; rfl; rfl; rfl; rfl; rw [HTK.out]; omega; (have := hbb.size; omega); intro v6 w6 hown' hgr'))
          go_roundw
          case rel => exact ⟨k + 1, by omega, by go_num, by rw [HSR.out]; exact hown', (hbk.trans (hbw3.mono hbs)).trans ((hb5.mono (by omega)).trans ((hbb.mono (by omega)).trans (below_ownL hgr' (hown5.next hbb) (Nat.le_refl _) (by have := hbb.size; omega))))⟩
          case measure => simp [intOf]; omega
        · have hx' : x = [y0, y1, y2, y3] := by rw [hx]; unfold gW; rw [if_neg hn.1, if_neg hn.2]
          have hm0 : ((k : Int) % 8 == 0) = false := by simp; omega
          have hm4 : ((k : Int) % 8 == 4) = false := by simp; omega
          have HX := Lib.hid hx'
          clear hx hx' hn cell2
          go_wp2_with (first
            | (apply wpList_buildB []; exact of_decide_eq_true rfl; rfl; rfl; rfl; intro ge we hge1 hge2 hoe hbe)
            | (apply wpList_indexL (hown.next hbe).rd (k - 1) i1; rfl; rfl; rfl; rfl; exact K1.out; intro p1 yv hp1 hc1 hry; rw [HG1.out] at hry)
            | (at_builtin; apply wpList_appendB hoe hry; rfl; rfl; rfl; rfl; exact of_decide_eq_true rfl; (have := hbe.size; omega); intro v2 w2 ho2 hg2; have hb2 : Below wr.heap.size wr w2 := hbe.trans (below_own hg2 hoe (Nat.le_refl _) hbe.size); have hs2 := hb2.size; have hown2 := hown.next hb2)
            | (apply wpList_indexL hown2.rd (k - 8) i8; rfl; rfl; rfl; rfl; exact K8.out; intro p8 zv hp8 hc8 hrz; rw [HG8.out] at hrz)
            | (go_at_call 105; refine (CX.out _ _ _ hrz (by rw [HX.out]; exact RdB.of_own ho2)).mono ?_; rintro e w3 ⟨v3, rfl, ho3, hb3⟩; have hown3 := hown2.next hb3; have hs3 := hb3.size)
            | (apply wpList_buildL1 v3; (obtain ⟨_, ay, cy, hye, _⟩ := RdB.of_own ho3; rw [hye]; rfl); rfl; rfl; rfl; intro gb wb hgb1 hgb2 hob hbb)
            | (at_builtin; apply wpList_appendL (hown3.next hbb) ((RdB.of_own ho3).next hbb) (fun g hg => own_apart ho3 (hown2.block_lt g hg).2) hob; rfl; rfl; rfl; rfl; rw [HTK.out]; omega; (have := hbb.size; omega); intro v4 w4 hown' hgr'))
          go_roundw
          case rel => exact ⟨k + 1, by omega, by go_num, by rw [HSR.out]; exact hown', (hbk.trans (hb2.mono hbs)).trans ((hb3.mono (by omega)).trans ((hbb.mono (by omega)).trans (below_ownL hgr' (hown3.next hbb) (Nat.le_refl _) (by have := hbb.size; omega))))⟩
          case measure => simp [intOf]; omega
    · go_wp2_with fail
      go_ret
      obtain rfl : k = 60 := by omega
      rw [List.take_of_length_le (by rw [HWL.out]; exact Nat.le_refl _)] at hown
      exact ⟨_, rfl, hown, hbk⟩
end Go.Proofs.Ytfinekmegiengaa
/- The walks of the references of layer 7: encrypting, decrypting. -/
namespace Go.Proofs.Ytfinekmegiengaa
open Go.RowKit Nep
set_option maxRecDepth 100000
set_option linter.unusedVariables false
set_option linter.unusedSimpArgs false
set_option maxHeartbeats 1000000

theorem rkL_length (key : List Nat) (hk : key.length = 32) (hb : Bytes key) (r : Nat) (hr : r < 15) : (rkL (expL key 60) r).length = 16 := by
  rw [rkL_flat key hk hb r, List.length_take, List.length_drop, flatL_length key hk hb]; omega
theorem rkL_bytes (key : List Nat) (hk : key.length = 32) (hb : Bytes key) (r : Nat) : Bytes (rkL (expL key 60) r) := by
  rw [rkL_flat key hk hb r]
  exact (Bytes.drop (flatL_bytes key hk hb) _).take _
theorem encR_blk (key b : List Nat) (hk : key.length = 32) (hkb : Bytes key) (hb : b.length = 16) (hbb : Bytes b) (r : Nat) (h : r < 15) : (encR (expL key 60) b r).length = 16 ∧ Bytes (encR (expL key 60) b r) := by
  rw [← encF_eq key b hk hkb r]
  exact encF_blk _ b (flatL_length key hk hkb) (flatL_bytes key hk hkb) hb hbb r h
theorem decR_blk (key b : List Nat) (hk : key.length = 32) (hkb : Bytes key) (hb : b.length = 16) (hbb : Bytes b) (r : Nat) : (decR (expL key 60) b r).length = 16 ∧ Bytes (decR (expL key 60) b r) := by
  rw [← decF_eq key b hk hkb r]
  exact decF_blk _ b hb hbb r

theorem renc_calls (v1 v2 v3 : Value) (key l t : List Nat) (w : World) (hkb : Bytes key) (hr1 : RdB w.heap.size w v1 key) (h32 : key.length = 32) (hlb : Bytes l) (hr2 : RdB w.heap.size w v2 l) (h16 : l.length = 16)
    (hr3 : RdB w.heap.size w v3 t) (ht : t = sboxL) : Calls Try.prog 44 #[v1, v2, v3] w (RetS (encL key l) w) := by
  have htl : t.length = 256 := by rw [ht]; decide +kernel
  have htb : Bytes t := fun x hx => by
    obtain ⟨i, hi, rfl⟩ := List.getElem_of_mem hx
    have : t[i] = t.getD i 0 := by simp [List.getElem?_eq_getElem hi]
    rw [this, ht]; exact sb_lt i
  have htm : ∀ x : List Nat, (x.map fun y => t.getD y 0) = x.map sb := fun x => by rw [ht]; rfl
  obtain ⟨W, hW⟩ : ∃ W, W = expL key 60 := ⟨_, rfl⟩
  have hW4 : ∀ x ∈ W, x.length = 4 := fun x hx => by rw [hW] at hx; exact exp4 key h32 hkb x hx
  have hWl : W.length = 60 := by rw [hW, expL_length]
  have hkl : ∀ r, r < 15 → (rkL W r).length = 16 ∧ Bytes (rkL W r) := fun r hr => by rw [hW]; exact ⟨rkL_length key h32 hkb r hr, rkL_bytes key h32 hkb r⟩
  have hel : ∀ r, r < 15 → (encR W l r).length = 16 ∧ Bytes (encR W l r) := fun r hr => by rw [hW]; exact encR_blk key l h32 hkb h16 hlb r hr
  have CE : RowKit.Hid (∀ w, RdB w.heap.size w v1 key → RdB w.heap.size w v3 t → Calls Try.prog 39 #[v1, v3] w (RetL W w)) := Lib.hid (fun w ha hc => hW ▸ rexpand_calls v1 v3 key t w hkb ha h32 hc ht)
  have CR : RowKit.Hid (∀ (n : Nat) (N : Int), N = n → n < 15 → ∀ v w, RdL w.heap.size w v W → Calls Try.prog 114 #[v, .int .i64 N] w (RetS (rkL W n) w)) := Lib.hid (fun n N hN hn v w h => rround_calls v W n hN w hW4 h (by omega) (by omega))
  have CX : RowKit.Hid (∀ a b : List Nat, a.length = 16 → b.length = 16 → Bytes a → Bytes b → ∀ va vb w, RdB w.heap.size w va a → RdB w.heap.size w vb b → Calls Try.prog 105 #[va, vb] w (RetS (xorL a b) w)) := Lib.hid (fun a b h1 h2 h3 h4 va vb w ha hc => rxor_calls va vb a b w h3 h4 ha hc (by omega) (by omega))
  have CP : RowKit.Hid (∀ a : List Nat, a.length = 16 → Bytes a → ∀ va w, RdB w.heap.size w va a → RdB w.heap.size w v3 t → Calls Try.prog 115 #[va, v3] w (RetS (a.map sb) w)) := Lib.hid (fun a h1 h2 va w ha hc => htm a ▸ rput_calls va v3 a t w h2 htb ha hc (by omega) htl)
  have CS : RowKit.Hid (∀ a : List Nat, a.length = 16 → Bytes a → ∀ va w, RdB w.heap.size w va a → Calls Try.prog 47 #[va, .int .i64 1] w (RetS (shL a 1) w)) := Lib.hid (fun a h1 h2 va w ha => rshift_calls va a 1 rfl (.inl rfl) w h2 ha h1)
  have CM : RowKit.Hid (∀ a : List Nat, a.length = 16 → Bytes a → ∀ va w, RdB w.heap.size w va a → Calls Try.prog 116 #[va, .agg #[.int .u8 2, .int .u8 3, .int .u8 1, .int .u8 1]] w (RetS (mixL [2, 3, 1, 1] a) w)) := Lib.hid (fun a h1 h2 va w ha => rmixed_calls va a 2 3 1 1 w (by simp [Bytes]) h2 ha h1)
  have HKL := Lib.hid hkl
  have HEL := Lib.hid hel
  have HW := Lib.hid hW
  have H16 := Lib.hid h16
  have h0 : encR W l 0 = xorL l (rkL W 0) := rfl
  have H0 := Lib.hid h0
  have hr30 := hr3
  clear htl htb htm hW4 hWl hkl hel ht hW h16 h0
  go_enter Try.func44, Try.ntmps44
  go_wp2_with (first
    | (go_at_call 39; refine (CE.out _ hr1 hr3).mono ?_; rintro e w1 ⟨vw, rfl, hW1, hb1⟩)
    | (go_at_call 114; refine (CR.out 0 _ rfl (by omega) _ _ hW1.rd).mono ?_; rintro e w2 ⟨vk, rfl, hk2, hb2⟩)
    | (go_at_call 105; refine (CX.out l (rkL W 0) H16.out (HKL.out 0 (by omega)).1 hlb (HKL.out 0 (by omega)).2 _ _ _ ((hr2.next hb1).next hb2) (RdB.of_own hk2)).mono ?_; rintro e w3 ⟨vb, rfl, ho3, hb3⟩))
  have s1 := hb1.size
  have s2 := hb2.size
  have hbb := hb1.trans ((hb2.mono s1).trans (hb3.mono (by omega)))
  have hW3 := (hW1.next hb2).next hb3
  have ho3' := own_base ho3 (show w.heap.size ≤ w2.heap.size by omega)
  rw [← H0.out] at ho3'
  clear hr1 hr2 hr3 hk2 hb1 hb2 hb3 s1 s2 hW1 ho3
  go_loopw [8, 9] (fun s i wr => ∃ n : Nat, n ≤ 14 ∧ i = .int .i64 ((n + 1 : Nat) : Int) ∧ wr.ownsRow w.heap.size 5 1 s (encR W l n).length (bv (encR W l n)) ∧ OwnL w.heap.size wr vw W ∧ Below w.heap.size w wr) (fun _ i _ => 15 - (intOf i).toNat)
  case atStart => exact ⟨0, by omega, rfl, ho3', OwnL.base hW3 (Nat.le_refl _), hbb⟩
  case round =>
    obtain ⟨n, hn, rfl, ho, hWk, hbk⟩ := hrel
    clear ho3' hW3 hbb
    have hbs := hbk.size
    have hrt := (hr30.mono hbk).up hbs
    by_cases hlt : n < 14
    · have hx := HEL.out n (by omega)
      obtain ⟨x, hxe⟩ : ∃ x, x = encR W l n := ⟨_, rfl⟩
      have hstep : encR W l (n + 1) = xorL (if n + 1 < 14 then mixL [2, 3, 1, 1] (shL (x.map sb) 1) else shL (x.map sb) 1) (rkL W (n + 1)) := by rw [hxe]; rfl
      rw [← hxe] at hx ho
      have hx1 : (x.map sb).length = 16 := by rw [List.length_map]; exact hx.1
      have hx1b : Bytes (x.map sb) := map_sb_bytes x
      obtain ⟨x1, hx1e⟩ : ∃ x1, x1 = x.map sb := ⟨_, rfl⟩
      have CP' := fun va w h1 h2 => hx1e ▸ CP.out x hx.1 hx.2 va w h1 h2
      rw [← hx1e] at hx1 hx1b hstep
      obtain ⟨x2, hx2e⟩ : ∃ x2, x2 = shL x1 1 := ⟨_, rfl⟩
      have hx2 : x2.length = 16 := by rw [hx2e, shL_length]
      have hx2b : Bytes x2 := by rw [hx2e]; exact shL_bytes _ hx1b _
      have CS' := fun va w h1 => hx2e ▸ CS.out x1 hx1 hx1b va w h1
      rw [← hx2e] at hstep
      obtain ⟨m, hm⟩ : ∃ m, m = n + 1 := ⟨_, rfl⟩
      rw [← hm] at hstep ⊢
      have hm15 : m < 15 := by omega
      have hk := HKL.out m hm15
      have HCP := Lib.hid CP'
      have HCS := Lib.hid CS'
      by_cases h14 : m < 14
      · rw [if_pos h14] at hstep
        obtain ⟨x3, hx3e⟩ : ∃ x3, x3 = mixL [2, 3, 1, 1] x2 := ⟨_, rfl⟩
        have hx3 : x3.length = 16 := by rw [hx3e]; exact mixL_length _ _
        have hx3b : Bytes x3 := by rw [hx3e]; exact mixL_bytes _ _
        have CM' := fun va w h1 => hx3e ▸ CM.out x2 hx2 hx2b va w h1
        rw [← hx3e] at hstep
        have HS := Lib.hid hstep
        have HCM := Lib.hid CM'
        clear hstep CP' CS' CM' hxe hx1e hx2e hx3e hm
        go_wp2_with (first
          | (go_at_call 115; refine (HCP.out _ _ (RdB.of_own ho) hrt).mono ?_; rintro e w1 ⟨u1, rfl, ho1, hb1⟩)
          | (go_at_call 47; refine (HCS.out _ _ (RdB.of_own ho1)).mono ?_; rintro e w2 ⟨u2, rfl, ho2, hb2⟩)
          | (go_at_call 116; refine (HCM.out _ _ (RdB.of_own ho2)).mono ?_; rintro e w3 ⟨u3, rfl, ho3, hb3⟩; have hW3 := ((hWk.next hb1).next hb2).next hb3)
          | (go_at_call 114; refine (CR.out m _ rfl hm15 _ _ hW3.rd).mono ?_; rintro e w4 ⟨u4, rfl, ho4, hb4⟩)
          | (go_at_call 105; refine (CX.out x3 (rkL W m) hx3 hk.1 hx3b hk.2 _ _ _ ((RdB.of_own ho3).next hb4) (RdB.of_own ho4)).mono ?_; rintro e w5 ⟨u5, rfl, ho5, hb5⟩))
        have s1 := hb1.size
        have s2 := hb2.size
        have s3 := hb3.size
        have s4 := hb4.size
        go_roundw
        case rel => exact ⟨m, by omega, by go_num, by rw [HS.out]; exact own_base ho5 (by omega), (hW3.next hb4).next hb5, (hbk.trans (hb1.mono hbs)).trans ((hb2.mono (by omega)).trans ((hb3.mono (by omega)).trans ((hb4.mono (by omega)).trans (hb5.mono (by omega)))))⟩
        case measure => simp [intOf]; omega
      · rw [if_neg h14] at hstep
        have HS := Lib.hid hstep
        clear hstep CP' CS' hxe hx1e hx2e hm
        go_wp2_with (first
          | (go_at_call 115; refine (HCP.out _ _ (RdB.of_own ho) hrt).mono ?_; rintro e w1 ⟨u1, rfl, ho1, hb1⟩)
          | (go_at_call 47; refine (HCS.out _ _ (RdB.of_own ho1)).mono ?_; rintro e w3 ⟨u3, rfl, ho3, hb3⟩; have hW3 := (hWk.next hb1).next hb3)
          | (go_at_call 114; refine (CR.out m _ rfl hm15 _ _ hW3.rd).mono ?_; rintro e w4 ⟨u4, rfl, ho4, hb4⟩)
          | (go_at_call 105; refine (CX.out x2 (rkL W m) hx2 hk.1 hx2b hk.2 _ _ _ ((RdB.of_own ho3).next hb4) (RdB.of_own ho4)).mono ?_; rintro e w5 ⟨u5, rfl, ho5, hb5⟩))
        have s1 := hb1.size
        have s3 := hb3.size
        have s4 := hb4.size
        go_roundw
        case rel => exact ⟨m, by omega, by go_num, by rw [HS.out]; exact own_base ho5 (by omega), (hW3.next hb4).next hb5, (hbk.trans (hb1.mono hbs)).trans ((hb3.mono (by omega)).trans ((hb4.mono (by omega)).trans (hb5.mono (by omega))))⟩
        case measure => simp [intOf]; omega
    · obtain rfl : n = 14 := by omega
      go_wp2_with fail
      go_ret
      refine ⟨_, rfl, ?_, hbk⟩
      unfold encL
      rw [← HW.out]
      exact ho
end Go.Proofs.Ytfinekmegiengaa
/- The walk of the reference of layer 7: decrypting. -/
namespace Go.Proofs.Ytfinekmegiengaa
open Go.RowKit Nep
set_option maxRecDepth 100000
set_option linter.unusedVariables false
set_option linter.unusedSimpArgs false
set_option maxHeartbeats 1000000

theorem sbox_bytes {t : List Nat} (ht : t = sboxL) : Bytes t := fun x hx => by
  obtain ⟨i, hi, rfl⟩ := List.getElem_of_mem hx
  have : t[i] = t.getD i 0 := by simp [List.getElem?_eq_getElem hi]
  rw [this, ht]; exact sb_lt i
theorem back_bytes {t : List Nat} (ht : t = backL) : Bytes t := fun x hx => by
  obtain ⟨i, hi, rfl⟩ := List.getElem_of_mem hx
  have : t[i] = t.getD i 0 := by simp [List.getElem?_eq_getElem hi]
  rw [this, ht]; exact bk_lt i

theorem rdec_calls (v1 v2 v3 : Value) (key l t : List Nat) (w : World) (hkb : Bytes key) (hr1 : RdB w.heap.size w v1 key) (h32 : key.length = 32) (hlb : Bytes l) (hr2 : RdB w.heap.size w v2 l) (h16 : l.length = 16)
    (hr3 : RdB w.heap.size w v3 t) (ht : t = sboxL) : Calls Try.prog 49 #[v1, v2, v3] w (RetS (decL key l) w) := by
  have htl : t.length = 256 := by rw [ht]; decide +kernel
  have htb : Bytes t := sbox_bytes ht
  obtain ⟨bt, hbt⟩ : ∃ bt, bt = backL := ⟨_, rfl⟩
  have hbl : bt.length = 256 := by rw [hbt]; decide +kernel
  have hbb : Bytes bt := back_bytes hbt
  have hrev : revT t 256 = bt := by rw [ht, hbt]; exact revT_all
  have htm : ∀ x : List Nat, (x.map fun y => bt.getD y 0) = x.map bk := fun x => by rw [hbt]; rfl
  obtain ⟨W, hW⟩ : ∃ W, W = expL key 60 := ⟨_, rfl⟩
  have hW4 : ∀ x ∈ W, x.length = 4 := fun x hx => by rw [hW] at hx; exact exp4 key h32 hkb x hx
  have hWl : W.length = 60 := by rw [hW, expL_length]
  have hkl : ∀ r, r < 15 → (rkL W r).length = 16 ∧ Bytes (rkL W r) := fun r hr => by rw [hW]; exact ⟨rkL_length key h32 hkb r hr, rkL_bytes key h32 hkb r⟩
  have hel : ∀ r, (decR W l r).length = 16 ∧ Bytes (decR W l r) := fun r => by rw [hW]; exact decR_blk key l h32 hkb h16 hlb r
  have CE : RowKit.Hid (∀ w, RdB w.heap.size w v1 key → RdB w.heap.size w v3 t → Calls Try.prog 39 #[v1, v3] w (RetL W w)) := Lib.hid (fun w ha hc => hW ▸ rexpand_calls v1 v3 key t w hkb ha h32 hc ht)
  have CT : RowKit.Hid (∀ w, RdB w.heap.size w v3 t → Calls Try.prog 119 #[v3] w (RetS bt w)) := Lib.hid (fun w hc => hrev ▸ rturn_calls v3 t w htb hc htl)
  have CR : RowKit.Hid (∀ (n : Nat) (N : Int), N = n → n < 15 → ∀ v w, RdL w.heap.size w v W → Calls Try.prog 114 #[v, .int .i64 N] w (RetS (rkL W n) w)) := Lib.hid (fun n N hN hn v w h => rround_calls v W n hN w hW4 h (by omega) (by omega))
  have CX : RowKit.Hid (∀ a b : List Nat, a.length = 16 → b.length = 16 → Bytes a → Bytes b → ∀ va vb w, RdB w.heap.size w va a → RdB w.heap.size w vb b → Calls Try.prog 105 #[va, vb] w (RetS (xorL a b) w)) := Lib.hid (fun a b h1 h2 h3 h4 va vb w ha hc => rxor_calls va vb a b w h3 h4 ha hc (by omega) (by omega))
  have CP : RowKit.Hid (∀ a : List Nat, a.length = 16 → Bytes a → ∀ va vt w, RdB w.heap.size w va a → RdB w.heap.size w vt bt → Calls Try.prog 115 #[va, vt] w (RetS (a.map bk) w)) := Lib.hid (fun a h1 h2 va vt w ha hc => htm a ▸ rput_calls va vt a bt w h2 hbb ha hc (by omega) hbl)
  have CS : RowKit.Hid (∀ a : List Nat, a.length = 16 → Bytes a → ∀ va w, RdB w.heap.size w va a → Calls Try.prog 47 #[va, .int .i64 3] w (RetS (shL a 3) w)) := Lib.hid (fun a h1 h2 va w ha => rshift_calls va a 3 rfl (.inr rfl) w h2 ha h1)
  have CM : RowKit.Hid (∀ a : List Nat, a.length = 16 → Bytes a → ∀ va w, RdB w.heap.size w va a → Calls Try.prog 116 #[va, .agg #[.int .u8 14, .int .u8 11, .int .u8 13, .int .u8 9]] w (RetS (mixL [14, 11, 13, 9] a) w)) := Lib.hid (fun a h1 h2 va w ha => rmixed_calls va a 14 11 13 9 w (by simp [Bytes]) h2 ha h1)
  have HKL := Lib.hid hkl
  have HEL := Lib.hid hel
  have HW := Lib.hid hW
  have H16 := Lib.hid h16
  clear htl htb htm hW4 hWl hkl hel ht hW h16 hbt hbl hbb hrev
  go_enter Try.func49, Try.ntmps49
  go_wp2_with (first
    | (go_at_call 39; refine (CE.out _ hr1 hr3).mono ?_; rintro e w1 ⟨vw, rfl, hW1, hb1⟩)
    | (go_at_call 119; refine (CT.out _ (hr3.next hb1)).mono ?_; rintro e w2 ⟨vt, rfl, ht2, hb2⟩))
  have s1 := hb1.size
  have hbb := hb1.trans (hb2.mono s1)
  have hW3 := hW1.next hb2
  have ht3 := RdB.of_own ht2
  have hl3 := (hr2.next hb1).next hb2
  clear hr1 hr2 hr3 hb1 hb2 s1 hW1 ht2
  go_loopw [9, 10] (fun s i wr => ∃ j : Nat, j ≤ 14 ∧ i = .int .i64 ((14 - j : Nat) : Int) ∧ RdB wr.heap.size wr s (decR W l j) ∧ RdB wr.heap.size wr vt bt ∧ OwnL w.heap.size wr vw W ∧ Below w.heap.size w wr) (fun _ i _ => (intOf i).toNat)
  case atStart => exact ⟨0, by omega, rfl, hl3, ht3, OwnL.base hW3 (Nat.le_refl _), hbb⟩
  case round =>
    obtain ⟨j, hj, hn, hx0, htk, hWk, hbk⟩ := hrel
    clear hl3 hW3 hbb ht3
    have hbs := hbk.size
    obtain ⟨n, hne⟩ : ∃ n, n = 14 - j := ⟨_, rfl⟩
    rw [← hne] at hn
    subst hn
    have hx := HEL.out j
    have hstep : decR W l (j + 1) = (shL (if 0 < j then mixL [14, 11, 13, 9] (xorL (decR W l j) (rkL W (14 - j))) else xorL (decR W l j) (rkL W (14 - j))) 3).map bk := rfl
    obtain ⟨x, hxe⟩ : ∃ x, x = decR W l j := ⟨_, rfl⟩
    rw [← hxe] at hx hx0 hstep
    have hn15 : n < 15 := by omega
    have hk := HKL.out n hn15
    by_cases hlt : j < 14
    · have hn1 : 1 ≤ n := by omega
      rw [← hne] at hstep
      obtain ⟨x1, hx1e⟩ : ∃ x1, x1 = xorL x (rkL W n) := ⟨_, rfl⟩
      have hx1 : x1.length = 16 := by rw [hx1e, xorL_length _ _ (by rw [hx.1, hk.1]), hx.1]
      have hx1b : Bytes x1 := by rw [hx1e]; exact xorL_bytes hx.2 hk.2
      have CX' := fun va vb w h1 h2 => hx1e ▸ CX.out x (rkL W n) hx.1 hk.1 hx.2 hk.2 va vb w h1 h2
      rw [← hx1e] at hstep
      have HCX := Lib.hid CX'
      by_cases h14 : n < 14
      · rw [if_pos (by omega)] at hstep
        obtain ⟨x2, hx2e⟩ : ∃ x2, x2 = mixL [14, 11, 13, 9] x1 := ⟨_, rfl⟩
        have hx2 : x2.length = 16 := by rw [hx2e]; exact mixL_length _ _
        have hx2b : Bytes x2 := by rw [hx2e]; exact mixL_bytes _ _
        have CM' := fun va w h1 => hx2e ▸ CM.out x1 hx1 hx1b va w h1
        rw [← hx2e] at hstep
        obtain ⟨x3, hx3e⟩ : ∃ x3, x3 = shL x2 3 := ⟨_, rfl⟩
        have hx3 : x3.length = 16 := by rw [hx3e, shL_length]
        have hx3b : Bytes x3 := by rw [hx3e]; exact shL_bytes _ hx2b _
        have CS' := fun va w h1 => hx3e ▸ CS.out x2 hx2 hx2b va w h1
        rw [← hx3e] at hstep
        have HS := Lib.hid hstep
        have HCM := Lib.hid CM'
        have HCS := Lib.hid CS'
        have HN := Lib.hid hne
        clear hstep CX' CS' CM' hxe hx1e hx2e hx3e hne
        go_wp2_with (first
          | (go_at_call 114; refine (CR.out n _ rfl hn15 _ _ hWk.rd).mono ?_; rintro e w1 ⟨u1, rfl, ho1, hb1⟩)
          | (go_at_call 105; refine (HCX.out _ _ _ (hx0.next hb1) (RdB.of_own ho1)).mono ?_; rintro e w2 ⟨u2, rfl, ho2, hb2⟩)
          | (go_at_call 116; refine (HCM.out _ _ (RdB.of_own ho2)).mono ?_; rintro e w3 ⟨u3, rfl, ho3, hb3⟩)
          | (go_at_call 47; refine (HCS.out _ _ (RdB.of_own ho3)).mono ?_; rintro e w4 ⟨u4, rfl, ho4, hb4⟩; have ht4 := (((htk.next hb1).next hb2).next hb3).next hb4)
          | (go_at_call 115; refine (CP.out x3 hx3 hx3b _ _ _ (RdB.of_own ho4) ht4).mono ?_; rintro e w5 ⟨u5, rfl, ho5, hb5⟩))
        have s1 := hb1.size
        have s2 := hb2.size
        have s3 := hb3.size
        have s4 := hb4.size
        go_roundw
        case rel => exact ⟨j + 1, by omega, by have := HN.out; go_num, by rw [HS.out]; exact RdB.of_own ho5, ht4.next hb5, ((((hWk.next hb1).next hb2).next hb3).next hb4).next hb5, (hbk.trans (hb1.mono hbs)).trans ((hb2.mono (by omega)).trans ((hb3.mono (by omega)).trans ((hb4.mono (by omega)).trans (hb5.mono (by omega)))))⟩
        case measure => simp [intOf]; omega
      · rw [if_neg (by omega)] at hstep
        obtain ⟨x3, hx3e⟩ : ∃ x3, x3 = shL x1 3 := ⟨_, rfl⟩
        have hx3 : x3.length = 16 := by rw [hx3e, shL_length]
        have hx3b : Bytes x3 := by rw [hx3e]; exact shL_bytes _ hx1b _
        have CS' := fun va w h1 => hx3e ▸ CS.out x1 hx1 hx1b va w h1
        rw [← hx3e] at hstep
        have HS := Lib.hid hstep
        have HCS := Lib.hid CS'
        have HN := Lib.hid hne
        clear hstep CX' CS' hxe hx1e hx3e hne
        go_wp2_with (first
          | (go_at_call 114; refine (CR.out n _ rfl hn15 _ _ hWk.rd).mono ?_; rintro e w1 ⟨u1, rfl, ho1, hb1⟩)
          | (go_at_call 105; refine (HCX.out _ _ _ (hx0.next hb1) (RdB.of_own ho1)).mono ?_; rintro e w2 ⟨u2, rfl, ho2, hb2⟩)
          | (go_at_call 47; refine (HCS.out _ _ (RdB.of_own ho2)).mono ?_; rintro e w4 ⟨u4, rfl, ho4, hb4⟩; have ht4 := ((htk.next hb1).next hb2).next hb4)
          | (go_at_call 115; refine (CP.out x3 hx3 hx3b _ _ _ (RdB.of_own ho4) ht4).mono ?_; rintro e w5 ⟨u5, rfl, ho5, hb5⟩))
        have s1 := hb1.size
        have s2 := hb2.size
        have s4 := hb4.size
        go_roundw
        case rel => exact ⟨j + 1, by omega, by have := HN.out; go_num, by rw [HS.out]; exact RdB.of_own ho5, ht4.next hb5, (((hWk.next hb1).next hb2).next hb4).next hb5, (hbk.trans (hb1.mono hbs)).trans ((hb2.mono (by omega)).trans ((hb4.mono (by omega)).trans (hb5.mono (by omega))))⟩
        case measure => simp [intOf]; omega
    · obtain rfl : n = 0 := by omega
      obtain rfl : j = 14 := by omega
      have hX := hxe
      have HX := Lib.hid hX
      clear hX hxe hstep hne
      go_wp2_with (first
          | (go_at_call 114; refine (CR.out 0 _ rfl hn15 _ _ hWk.rd).mono ?_; rintro e w1 ⟨u1, rfl, ho1, hb1⟩)
          | (go_at_call 105; refine (CX.out x (rkL W 0) hx.1 hk.1 hx.2 hk.2 _ _ _ (hx0.next hb1) (RdB.of_own ho1)).mono ?_; rintro e w2 ⟨u2, rfl, ho2, hb2⟩))
      go_ret
      refine ⟨_, rfl, ?_, hbk.trans ((hb1.mono hbs).trans (hb2.mono (Nat.le_trans hbs hb1.size)))⟩
      unfold decL
      rw [← HW.out, ← HX.out]
      exact own_base ho2 (Nat.le_trans hbs hb1.size)
end Go.Proofs.Ytfinekmegiengaa
