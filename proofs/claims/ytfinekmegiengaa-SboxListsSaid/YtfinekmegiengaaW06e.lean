/- The walks of layer 6: what is put for each of a list's bytes, and for which each is. -/
import Derived.Test.YtfinekmegiengaaMem3
import Derived.Test.YtfinekmegiengaaW06d
import Derived.Outline
namespace Go.Proofs.Ytfinekmegiengaa
open Go.RowKit Nep
set_option maxRecDepth 100000

theorem subs_calls (v : Value) (l : List Nat) (w : World) (hl : Bytes l) (hr : RdB w.heap.size w v l) (hn : l.length ≤ 140737488351232) :
    Calls Try.prog 34 #[v] w (RetS (l.map sb) w) := by
  have hr0 := hr
  go_enter Try.func34, Try.ntmps34
  go_wp2_with (first | (refine wpList_lenB hr rfl rfl rfl ?_) | (apply wpList_makeBytes (n := l.length); rfl; rfl; rfl; rfl; exact hn; intro g w1 hg1 hg2 hrow hb1; replace hr := hr.mono hb1))
  obtain ⟨ys, hys⟩ : ∃ ys, ys = l.map sb := ⟨_, rfl⟩
  obtain ⟨zs, hzs⟩ : ∃ zs, zs = bv (List.replicate l.length 0) := ⟨_, rfl⟩
  have hyl : ys.length = l.length := by rw [hys]; simp
  have hzl : zs.length = l.length := by rw [hzs]; simp
  have hf : FillRow w1 g 5 (bv ys) zs 0 := .start (by rw [hzs]; exact hrow) (by rw [hzl, bv_length, hyl])
  have HY := Lib.hid hys
  rw [← hys]
  have HYL := Lib.hid hyl
  have HZL := Lib.hid hzl
  clear hys hzs hyl hzl hrow hr
  go_loopw [11] (fun i wr => ∃ k : Nat, k ≤ l.length ∧ i = .int .i64 k ∧ FillRow wr g 5 (bv ys) zs k ∧ Below w.heap.size w wr) (fun i _ => l.length - (intOf i).toNat)
  case atStart => exact ⟨0, by omega, rfl, hf, hb1⟩
  case round =>
    obtain ⟨k, hk, rfl, hfk, hbk⟩ := hrel
    clear hf
    have hrk := hr0.mono hbk
    have hx := hl.get k
    by_cases hlt : k < l.length
    · obtain ⟨x, hxe⟩ : ∃ x, x = l.getD k 0 := ⟨_, rfl⟩
      rw [← hxe] at hx
      have hi := fun w => index256 subsV x _ hx (subsV_get x hx) w
      have HYK : (bv ys)[k]? = some (.int .u8 (sb x)) := by
        rw [bv_get _ _ (by have := HYL.out; omega), HY.out, hxe]
        simp [List.getElem?_eq_getElem hlt]
      have HYK' := Lib.hid HYK
      have e1 : ((l.getD k 0 : Nat) : Int) = x := by rw [hxe]
      clear hxe HYK
      go_wp2_with (first | (apply wpList_indexB hrk k hlt; rfl; rfl; rfl; rfl; rfl; rw [e1]; intro p hp hcell; clear hrk) | (go_at_call 96; refine (tables06 _).mono ?_; rintro e w2 ⟨rfl, hb2⟩; have hf2 := hfk.next hb2; have hfr2 := hf2.free k; have hs2 := hb2.size; have hc2 := hf2.cell (by have := HZL.out; omega)))
      have hlt2 := hf2.lt
      have hbs := hbk.size
      go_roundw
      case rel => exact ⟨k + 1, by omega, by go_num, hf2.put HYK'.out, (hbk.trans (hb2.mono hbs)).setCell (by exact hg1) _⟩
      case measure => simp [intOf]; omega
    · go_wp2_with fail
      go_ret
      obtain rfl : k = l.length := by omega
      rw [← HY.out]
      exact RetS.of_row (hfk.done (by rw [HZL.out]; exact Nat.le_refl _)) hg1 hbk (by rw [HYL.out]; exact hn) HYL.out.symm

theorem backs_calls (v : Value) (l : List Nat) (w : World) (hl : Bytes l) (hr : RdB w.heap.size w v l) (hn : l.length ≤ 140737488351232) :
    Calls Try.prog 35 #[v] w (RetS (l.map bk) w) := by
  have hr0 := hr
  go_enter Try.func35, Try.ntmps35
  go_wp2_with (first | (refine wpList_lenB hr rfl rfl rfl ?_) | (apply wpList_makeBytes (n := l.length); rfl; rfl; rfl; rfl; exact hn; intro g w1 hg1 hg2 hrow hb1; replace hr := hr.mono hb1))
  obtain ⟨ys, hys⟩ : ∃ ys, ys = l.map bk := ⟨_, rfl⟩
  obtain ⟨zs, hzs⟩ : ∃ zs, zs = bv (List.replicate l.length 0) := ⟨_, rfl⟩
  have hyl : ys.length = l.length := by rw [hys]; simp
  have hzl : zs.length = l.length := by rw [hzs]; simp
  have hf : FillRow w1 g 5 (bv ys) zs 0 := .start (by rw [hzs]; exact hrow) (by rw [hzl, bv_length, hyl])
  have HY := Lib.hid hys
  rw [← hys]
  have HYL := Lib.hid hyl
  have HZL := Lib.hid hzl
  clear hys hzs hyl hzl hrow hr
  go_loopw [11] (fun i wr => ∃ k : Nat, k ≤ l.length ∧ i = .int .i64 k ∧ FillRow wr g 5 (bv ys) zs k ∧ Below w.heap.size w wr) (fun i _ => l.length - (intOf i).toNat)
  case atStart => exact ⟨0, by omega, rfl, hf, hb1⟩
  case round =>
    obtain ⟨k, hk, rfl, hfk, hbk⟩ := hrel
    clear hf
    have hrk := hr0.mono hbk
    have hx := hl.get k
    by_cases hlt : k < l.length
    · obtain ⟨x, hxe⟩ : ∃ x, x = l.getD k 0 := ⟨_, rfl⟩
      rw [← hxe] at hx
      have hi := fun w => index256 backsV x _ hx (backsV_get x hx) w
      have HYK : (bv ys)[k]? = some (.int .u8 (bk x)) := by
        rw [bv_get _ _ (by have := HYL.out; omega), HY.out, hxe]
        simp [List.getElem?_eq_getElem hlt]
      have HYK' := Lib.hid HYK
      have e1 : ((l.getD k 0 : Nat) : Int) = x := by rw [hxe]
      clear hxe HYK
      go_wp2_with (first | (apply wpList_indexB hrk k hlt; rfl; rfl; rfl; rfl; rfl; rw [e1]; intro p hp hcell; clear hrk) | (go_at_call 99; refine (backs06 _).mono ?_; rintro e w2 ⟨rfl, hb2⟩; have hf2 := hfk.next hb2; have hfr2 := hf2.free k; have hs2 := hb2.size; have hc2 := hf2.cell (by have := HZL.out; omega)))
      have hlt2 := hf2.lt
      have hbs := hbk.size
      go_roundw
      case rel => exact ⟨k + 1, by omega, by go_num, hf2.put HYK'.out, (hbk.trans (hb2.mono hbs)).setCell (by exact hg1) _⟩
      case measure => simp [intOf]; omega
    · go_wp2_with fail
      go_ret
      obtain rfl : k = l.length := by omega
      rw [← HY.out]
      exact RetS.of_row (hfk.done (by rw [HZL.out]; exact Nat.le_refl _)) hg1 hbk (by rw [HYL.out]; exact hn) HYL.out.symm

end Go.Proofs.Ytfinekmegiengaa
