/- The walk of layer 17: the program's Read. -/
import Derived.Test.YtfinekmegiengaaW17n
namespace Go.Proofs.Ytfinekmegiengaa
open Go.RowKit Nep
set_option maxRecDepth 100000
set_option linter.unusedVariables false
set_option linter.unusedSimpArgs false
set_option maxHeartbeats 8000000

/-- it returns a slot that reads these bytes, and OK -/
def RetSr (u : Bool) (s : Int) (e c : Nat) (ys : List Nat) (w : World) (x : Ending) (w' : World) : Prop := ∃ av k, x = .returned (.tuple #[slotV u s e c (.slice av ys.length k), .int .i64 0]) ∧ RdB w'.heap.size w' (.slice av ys.length k) ys ∧ Below w.heap.size w w'
/-- it returns the slot, or that there is none -/
def RetRr (r : Bool) (s : Int) (e c : Nat) (ys : List Nat) (w : World) (x : Ending) (w' : World) : Prop := if r = true then RetSr true s e c ys w x w' else RetSlE 1 w x w'
theorem litA {W : World} {g B : Nat} (hg : g = W.heap.size) (hB : B ≤ W.heap.size) : (W.alloc (.cells #[] 5)).drew.ownsRow B 5 1 (.slice (some ⟨g, 0, none⟩) 0 0) ([] : List Nat).length (bv []) := by
  subst hg
  exact own_base (own_lit0 W) hB
theorem litB {W : World} {g B : Nat} {o : Obj} (hg : g = W.heap.size) (hB : B ≤ W.heap.size) : ((W.alloc (.cells #[] 5)).alloc o).drew.ownsRow B 5 1 (.slice (some ⟨g, 0, none⟩) 0 0) ([] : List Nat).length (bv []) := by
  subst hg
  exact own_alloc' (own_base (own_lit0 W) hB) o
theorem growA {W w5 : World} {t : TypeId} {c : Array Value} {r : Option Nat} {g : Nat} (h : (W.alloc (.cells c t)).drew.grownBy w5 r) (hg : g = W.heap.size) (hr : some g ≠ r) : Row w5 g t c := (Row.drewn (alloc_row W t c g hg)).grown h hr
theorem growB {W w5 : World} {t : TypeId} {c : Array Value} {o : Obj} {r : Option Nat} {g : Nat} (h : ((W.alloc (.cells c t)).alloc o).drew.grownBy w5 r) (hg : g = W.heap.size) (hr : some g ≠ r) : Row w5 g t c := (Row.drewn ((alloc_row W t c g hg).alloc o)).grown h hr
theorem own_setTy {base s : Nat} {w : World} {v : Value} {n : Nat} {xs : List Value} (h : w.ownsRow base 5 s v n xs) {g i : Nat} {c : Array Value} (hr : Row w g 55 c) (x : Value) : (w.setCell ⟨g, i, none⟩ x).ownsRow base 5 s v n xs := by
  refine ⟨h.1, ?_⟩
  rcases h.2 with hn | ⟨g', cap, cur, rfl, hbg, hgg, r⟩
  · exact .inl hn
  · have hne : g' ≠ g := by
      intro he
      subst he
      rw [hr] at hgg
      injection hgg with h1
      injection h1 with _ h2
      exact absurd h2 (by decide)
    exact .inr ⟨g', cap, cur, rfl, hbg, (heap_setCell_other w ⟨g, i, none⟩ g' x hne).trans hgg, r⟩
theorem own_set5Ty {base s : Nat} {w : World} {v : Value} {n : Nat} {xs : List Value} (h : w.ownsRow base 5 s v n xs) {g : Nat} {c : Array Value} (hr : Row w g 55 c) {v0 v1 v2 v3 v4 : Value} :
    (((((w.setCell ⟨g, 0, none⟩ v0).setCell ⟨g, 1, none⟩ v1).setCell ⟨g, 2, none⟩ v2).setCell ⟨g, 3, none⟩ v3).setCell ⟨g, 4, none⟩ v4).ownsRow base 5 s v n xs :=
  own_setTy (own_setTy (own_setTy (own_setTy (own_setTy h hr _) (hr.set 0 v0) _) ((hr.set 0 v0).set 1 v1) _) (((hr.set 0 v0).set 1 v1).set 2 v2) _) ((((hr.set 0 v0).set 1 v1).set 2 v2).set 3 v3) _

theorem sread_short (v : Value) (b : List Nat) (w : World) (hr : RdB w.heap.size w v b) (hl : b.length ≠ 128) : Calls Try.prog 59 #[v] w (RetSlE 2 w) := by
  have f1 : ((b.length : Int) != 128) = true := by simp; omega
  clear hl
  go_enter Try.func59, Try.ntmps59
  go_wp2_with (first
    | (apply wpList_allocR (w := w) (.agg #[.bool false, .int .i64 0, .int .u64 0, .int .u64 0, .slice none 0 0]) 5; kernel_rfl; rfl; rfl; intro g1 w1 hg1 hg1' hr1 hb1; have ha1 := hr.next hb1; have ha10 := ha1)
    | (refine wpList_lenB ha1 rfl rfl rfl ?_; clear ha1)
    | (refine wpList_buildP [] #[.bool false, .int .i64 0, .int .u64 0, .int .u64 0, .slice none 0 0] (by kernel_rfl) rfl rfl rfl ?_)
    | (apply wpList_storeRow hr1 #[.bool false, .int .i64 0, .int .u64 0, .int .u64 0, .slice none 0 0]; rfl; rfl; rfl; rfl; kernel_rfl; rfl; kernel_rfl; intro w7 hww7 hrw7 hsw7; have HWw7 := Lib.hid hww7; clear hww7))
  refine ret_rowT rfl hrw7 Try.underlying55 (n := 5) (by kernel_rfl) rfl rfl rfl ?_
  exact ⟨rfl, by rw [HWw7.out]; exact hb1.trans (below_row _ hg1)⟩
theorem sread_zero (v : Value) (b : List Nat) (w : World) (hb : Bytes b) (hr : RdB w.heap.size w v b) (hl : b.length = 128) (hbz : b = List.replicate 128 0) : Calls Try.prog 59 #[v] w (RetSlE 0 w) := by
  obtain ⟨z, hz⟩ : ∃ z, z = List.replicate 128 0 := ⟨_, rfl⟩
  have hzl : z.length = 128 := by rw [hz]; simp
  have hzb : Bytes z := by rw [hz]; exact bytes_rep 128
  have CF : RowKit.Hid (∀ w, Calls Try.prog 124 #[.int .u8 0, .int .i64 128] w (RetS z w)) := Lib.hid (fun w => hz ▸ fill_calls 0 128 rfl rfl (by omega) w)
  have CS : RowKit.Hid (∀ va vb w, RdB w.heap.size w va b → RdB w.heap.size w vb z → Calls Try.prog 123 #[va, vb] w (RetB (.bool true) w)) := Lib.hid (fun va vb w h1 h2 => by have h := osame_calls va vb b z w hb hzb h1 h2 (by omega); rw [show decide (b = z) = true from decide_eq_true (by rw [hz]; exact hbz)] at h; exact h)
  have f1 : ((b.length : Int) != 128) = false := by simp; omega
  have HBL := Lib.hid hl
  clear hz hzl hzb hbz hl
  go_enter Try.func59, Try.ntmps59
  go_wp2_with (first
    | (apply wpList_allocR (w := w) (.agg #[.bool false, .int .i64 0, .int .u64 0, .int .u64 0, .slice none 0 0]) 5; kernel_rfl; rfl; rfl; intro g1 w1 hg1 hg1' hr1 hb1; have ha1 := hr.next hb1; have ha10 := ha1)
    | (refine wpList_lenB ha1 rfl rfl rfl ?_; clear ha1)
    | (go_at_call 124; (with_reducible refine (CF.out _).mono ?_); rintro x w2 ⟨vz, rfl, hz2, hb2⟩; have ha2 := ha10.next hb2; have hr12 := hr1.next hb2)
    | (go_at_call 123; (with_reducible refine (CS.out _ _ _ ha2 (RdB.of_own hz2)).mono ?_); rintro x w3 ⟨rfl, hb3⟩; have ha3 := ha2.next hb3; have hr13 := hr12.next hb3)
    | (refine wpList_buildP [] #[.bool false, .int .i64 0, .int .u64 0, .int .u64 0, .slice none 0 0] (by kernel_rfl) rfl rfl rfl ?_)
    | (apply wpList_storeRow hr13 #[.bool false, .int .i64 0, .int .u64 0, .int .u64 0, .slice none 0 0]; rfl; rfl; rfl; rfl; kernel_rfl; rfl; kernel_rfl; intro w7 hww7 hrw7 hsw7; have HWw7 := Lib.hid hww7; clear hww7))
  refine ret_rowT rfl hrw7 Try.underlying55 (n := 5) (by kernel_rfl) rfl rfl rfl ?_
  have s1 := hb1.size
  exact ⟨rfl, by rw [HWw7.out]; exact hb1.trans ((hb2.mono s1).trans ((hb3.mono (Nat.le_trans s1 hb2.size)).trans (below_row _ hg1)))⟩
theorem sread_calls (v : Value) (b : List Nat) (w : World) (hb : Bytes b) (hr : RdB w.heap.size w v b) (hl : b.length = 128) (hbz : b ≠ List.replicate 128 0) (r : Bool) (hrr : r = (decide (num (b.take 4) = 16777216) && slotOk true ((num ((b.drop 4).take 4) : Nat) : Int) (num ((b.drop 8).take 8)) (num ((b.drop 16).take 8)) 104)) :
    Calls Try.prog 59 #[v] w (RetRr r ((num ((b.drop 4).take 4) : Nat) : Int) (num ((b.drop 8).take 8)) (num ((b.drop 16).take 8)) (b.drop 24) w) := by
  obtain ⟨z, hz⟩ : ∃ z, z = List.replicate 128 0 := ⟨_, rfl⟩
  have hzl : z.length = 128 := by rw [hz]; simp
  have hzb : Bytes z := by rw [hz]; exact bytes_rep 128
  have CF : RowKit.Hid (∀ w, Calls Try.prog 124 #[.int .u8 0, .int .i64 128] w (RetS z w)) := Lib.hid (fun w => hz ▸ fill_calls 0 128 rfl rfl (by omega) w)
  have CS : RowKit.Hid (∀ va vb w, RdB w.heap.size w va b → RdB w.heap.size w vb z → Calls Try.prog 123 #[va, vb] w (RetB (.bool false) w)) := Lib.hid (fun va vb w h1 h2 => by have h := osame_calls va vb b z w hb hzb h1 h2 (by omega); rw [show decide (b = z) = false from decide_eq_false (by rw [hz]; exact hbz)] at h; exact h)
  have f1 : ((b.length : Int) != 128) = false := by simp; omega
  have HBL := Lib.hid hl
  have hd : ∀ i k, Bytes ((b.drop i).take k) := fun i k => (hb.drop i).take k
  have hlt4 : num ((b.drop 4).take 4) < 4294967296 := by
    have h := num_lt ((b.drop 4).take 4) (hd 4 4)
    have h2 : 256 ^ ((b.drop 4).take 4).length ≤ 256 ^ 4 := Nat.pow_le_pow_right (by omega) (by rw [List.length_take]; omega)
    omega
  have C0 : RowKit.Hid (∀ B va w, RdB B w va (b.take 4) → Calls Try.prog 100 #[va] w (RetP (.int .u64 (num (b.take 4) : Nat)) w)) := Lib.hid (fun B va w h => num_calls va _ w (hb.take 4) h (by rw [List.length_take]; omega))
  have C1 : RowKit.Hid (∀ B va w, RdB B w va ((b.drop 4).take (8 - 4)) → Calls Try.prog 100 #[va] w (RetP (.int .u64 (num ((b.drop 4).take 4) : Nat)) w)) := Lib.hid (fun B va w h => num_calls va _ w (hd 4 4) h (by rw [List.length_take]; omega))
  have C2 : RowKit.Hid (∀ B va w, RdB B w va ((b.drop 8).take (16 - 8)) → Calls Try.prog 100 #[va] w (RetP (.int .u64 (num ((b.drop 8).take 8) : Nat)) w)) := Lib.hid (fun B va w h => num_calls va _ w (hd 8 8) h (by rw [List.length_take]; omega))
  have C3 : RowKit.Hid (∀ B va w, RdB B w va ((b.drop 16).take (24 - 16)) → Calls Try.prog 100 #[va] w (RetP (.int .u64 (num ((b.drop 16).take 8) : Nat)) w)) := Lib.hid (fun B va w h => num_calls va _ w (hd 16 8) h (by rw [List.length_take]; omega))
  obtain ⟨m0, hm0⟩ : ∃ m, m = num (b.take 4) := ⟨_, rfl⟩
  obtain ⟨m1, hm1⟩ : ∃ m, m = num ((b.drop 4).take 4) := ⟨_, rfl⟩
  obtain ⟨m2, hm2⟩ : ∃ m, m = num ((b.drop 8).take 8) := ⟨_, rfl⟩
  obtain ⟨m3, hm3⟩ : ∃ m, m = num ((b.drop 16).take 8) := ⟨_, rfl⟩
  rw [← hm0] at C0 hrr
  rw [← hm1] at C1 hrr hlt4 ⊢
  rw [← hm2] at C2 hrr ⊢
  rw [← hm3] at C3 hrr ⊢
  obtain ⟨y, hy⟩ : ∃ y, y = b.drop 24 := ⟨_, rfl⟩
  have hyl : y.length = 104 := by rw [hy, List.length_drop]; omega
  rw [← hy]
  have hw1 : IntKind.i64.wrap (m1 : Int) = m1 := IntWalk.i64_in _ (by omega)
  have HY := Lib.hid hy.symm
  have HYL := Lib.hid hyl
  have HR := Lib.hid hrr
  have CR : RowKit.Hid (∀ av kk w, RdB w.heap.size w (.slice av y.length kk) y → Calls Try.prog 64 #[.agg #[.bool true, .int .i64 (m1 : Int), .int .u64 (m2 : Int), .int .u64 (m3 : Int), .slice av y.length kk]] w (RetB (.bool (slotOk true (m1 : Int) m2 m3 104)) w)) := Lib.hid (fun av kk w hh => by have h2 := sright_calls true (m1 : Int) m2 m3 (.slice av y.length kk) y w hh; rw [hyl] at h2 ⊢; exact h2)
  clear hrr hm0 hm1 hm2 hm3 hy hyl hd hlt4 hz hzl hzb hbz hl
  go_enter Try.func59, Try.ntmps59
  go_upto_region 5 with (first
    | (apply wpList_allocR (w := w) (.agg #[.bool false, .int .i64 0, .int .u64 0, .int .u64 0, .slice none 0 0]) 5; kernel_rfl; rfl; rfl; intro g1 w1 hg1 hg1' hr1 hb1; have ha1 := hr.next hb1; have ha10 := ha1)
    | (refine wpList_lenB ha1 rfl rfl rfl ?_; clear ha1)
    | (go_at_call 124; (with_reducible refine (CF.out _).mono ?_); rintro x w2 ⟨vz, rfl, hz2, hb2⟩; have ha2 := ha10.next hb2; have hr12 := hr1.next hb2)
    | (go_at_call 123; (with_reducible refine (CS.out _ _ _ ha2 (RdB.of_own hz2)).mono ?_); rintro x w3 ⟨rfl, hb3⟩; have ha3 := ha2.next hb3; have hr13 := hr12.next hb3))
  obtain ⟨ve, hve, hre⟩ := run_cutTo ha3 4 (by rw [HBL.out]; omega) (M := 4) rfl
  obtain ⟨va, hva, hra⟩ := run_cutM ha3 4 8 (by omega) (by rw [HBL.out]; omega) (N := 4) (M := 8) rfl rfl
  obtain ⟨vb, hvb, hrb⟩ := run_cutM ha3 8 16 (by omega) (by rw [HBL.out]; omega) (N := 8) (M := 16) rfl rfl
  obtain ⟨vc, hvc, hrc⟩ := run_cutM ha3 16 24 (by omega) (by rw [HBL.out]; omega) (N := 16) (M := 24) rfl rfl
  obtain ⟨vd, hvd, hrd⟩ := run_cutFrom ha3 24 (by rw [HBL.out]; omega) (M := 24) rfl
  rw [HY.out] at hrd
  go_cut [4] from 5 to 39 (fun p4 wx => ∃ g av kk, p4 = .pointer (some ⟨g, 0, none⟩) ∧ Row wx g 55 #[.bool true, .int .i64 (m1 : Int), .int .u64 (m2 : Int), .int .u64 (m3 : Int), .slice av y.length kk] ∧ wx.ownsRow w3.heap.size 5 1 (.slice av y.length kk) y.length (bv y) ∧ Below w3.heap.size w3.drew wx)
  case first =>
    have hSd : Below w3.heap.size w3.drew w3.drew := Below.refl _ _
    have hA : (w3.alloc (.cells #[] 5)).drew.ownsRow w3.heap.size 5 1 (.slice (some ⟨w3.heap.size, 0, none⟩) 0 0) ([] : List Nat).length (bv []) := litA rfl (Nat.le_refl _)
    have hB : ((w3.alloc (.cells #[] 5)).alloc (.cells #[.bool false, .int .i64 0, .int .u64 0, .int .u64 0, .slice none 0 0] 55)).drew.ownsRow w3.heap.size 5 1 (.slice (some ⟨w3.heap.size, 0, none⟩) 0 0) ([] : List Nat).length (bv []) := litB rfl (Nat.le_refl _)
    have hC : ((w3.alloc (.cells #[.bool false, .int .i64 0, .int .u64 0, .int .u64 0, .slice none 0 0] 55)).alloc (.cells #[] 5)).drew.ownsRow w3.heap.size 5 1 (.slice (some ⟨w3.heap.size + 1, 0, none⟩) 0 0) ([] : List Nat).length (bv []) := litA (by simp) (by simp)
    go_region_held3 (fun w' => Below w3.heap.size w3.drew w')
      (first | (with_reducible exact hSd) | (with_reducible assumption) | (with_reducible exact below_ad (by assumption)) | (with_reducible exact below_a (by assumption)) | (with_reducible refine below5 (by assumption) ?_; first | omega | exact hS5.size) | fail)
      (first
        | (go_at_call 100; (with_reducible refine (C1.out _ _ _ (hra.mono (Below.drewn (by assumption)))).mono ?_); rintro x w4 ⟨rfl, rfl⟩)
        | (go_at_call 100; (with_reducible refine (C2.out _ _ _ (hrb.mono (Below.drewn (by assumption)))).mono ?_); rintro x w4 ⟨rfl, rfl⟩)
        | (go_at_call 100; (with_reducible refine (C3.out _ _ _ (hrc.mono (Below.drewn (by assumption)))).mono ?_); rintro x w4 ⟨rfl, rfl⟩)
        | (apply step_appendB hA (hrd.mono (Below.drewn (by assumption))); rfl; rfl; rfl; rfl; (rw [HYL.out]; simp); exact (‹Below _ w3.drew _›).size; intro v5 w5 ho5 hg5; rw [List.nil_append] at ho5; obtain ⟨av, kk, hvv⟩ := own_isSlice' ho5; subst hvv; have hS5 := (‹Below _ w3.drew _›).trans (below_own hg5 hA (Nat.le_refl _) (‹Below _ w3.drew _›).size); (first | (have hrow : Row w5 (w3.heap.size + 1) 55 #[.bool false, .int .i64 0, .int .u64 0, .int .u64 0, .slice none 0 0] := by (with_reducible refine growA hg5 ?_ ?_); (simp); (intro h; have h2 : some (w3.heap.size + 1) = some w3.heap.size := h; injection h2; omega)) | (have hrow : Row w5 (w3.heap.size) 55 #[.bool false, .int .i64 0, .int .u64 0, .int .u64 0, .slice none 0 0] := by (with_reducible refine growB hg5 ?_ ?_); (first | rfl | simp); (intro h; have h2 : some w3.heap.size = some (w3.heap.size + 1) := h; injection h2; omega)) | skip); (first | (obtain ⟨b0, b1, b2, b3, b4⟩ := row5 hrow; have q0 := hrow.free 0; have q1 := hrow.free 1; have q2 := hrow.free 2; have q3 := hrow.free 3; have q4 := hrow.free 4) | skip))
        | (apply step_appendB hB (hrd.mono (Below.drewn (by assumption))); rfl; rfl; rfl; rfl; (rw [HYL.out]; simp); exact (‹Below _ w3.drew _›).size; intro v5 w5 ho5 hg5; rw [List.nil_append] at ho5; obtain ⟨av, kk, hvv⟩ := own_isSlice' ho5; subst hvv; have hS5 := (‹Below _ w3.drew _›).trans (below_own hg5 hB (Nat.le_refl _) (‹Below _ w3.drew _›).size); (first | (have hrow : Row w5 (w3.heap.size + 1) 55 #[.bool false, .int .i64 0, .int .u64 0, .int .u64 0, .slice none 0 0] := by (with_reducible refine growA hg5 ?_ ?_); (simp); (intro h; have h2 : some (w3.heap.size + 1) = some w3.heap.size := h; injection h2; omega)) | (have hrow : Row w5 (w3.heap.size) 55 #[.bool false, .int .i64 0, .int .u64 0, .int .u64 0, .slice none 0 0] := by (with_reducible refine growB hg5 ?_ ?_); (first | rfl | simp); (intro h; have h2 : some w3.heap.size = some (w3.heap.size + 1) := h; injection h2; omega)) | skip); (first | (obtain ⟨b0, b1, b2, b3, b4⟩ := row5 hrow; have q0 := hrow.free 0; have q1 := hrow.free 1; have q2 := hrow.free 2; have q3 := hrow.free 3; have q4 := hrow.free 4) | skip))
        | (apply step_appendB hC (hrd.mono (Below.drewn (by assumption))); rfl; rfl; rfl; rfl; (rw [HYL.out]; simp); exact (‹Below _ w3.drew _›).size; intro v5 w5 ho5 hg5; rw [List.nil_append] at ho5; obtain ⟨av, kk, hvv⟩ := own_isSlice' ho5; subst hvv; have hS5 := (‹Below _ w3.drew _›).trans (below_own hg5 hC (Nat.le_refl _) (‹Below _ w3.drew _›).size); (first | (have hrow : Row w5 (w3.heap.size + 1) 55 #[.bool false, .int .i64 0, .int .u64 0, .int .u64 0, .slice none 0 0] := by (with_reducible refine growA hg5 ?_ ?_); (simp); (intro h; have h2 : some (w3.heap.size + 1) = some w3.heap.size := h; injection h2; omega)) | (have hrow : Row w5 (w3.heap.size) 55 #[.bool false, .int .i64 0, .int .u64 0, .int .u64 0, .slice none 0 0] := by (with_reducible refine growB hg5 ?_ ?_); (first | rfl | simp); (intro h; have h2 : some w3.heap.size = some (w3.heap.size + 1) := h; injection h2; omega)) | skip); (first | (obtain ⟨b0, b1, b2, b3, b4⟩ := row5 hrow; have q0 := hrow.free 0; have q1 := hrow.free 1; have q2 := hrow.free 2; have q3 := hrow.free 3; have q4 := hrow.free 4) | skip))
        | fail)
    all_goals
      clear hva hvb hvc hvd hve hra hrb hrc hrd hre C0 C1 C2 C3 CF CS CR hA hB hC hr12 hr13 hz2 HR f1 hr hb hr1 ha10 ha2 ha3
      go_wp2_with fail
      go_meet
      case rel =>
        first
          | (have hq := hrow; with_reducible exact ⟨_, av, kk, rfl, row_set5 hq, own_set5Ty ho5 hq, below5 hS5 (by omega)⟩)
          | (with_reducible exact ⟨w5.heap.size, av, kk, rfl, alloc_row w5 _ _ _ rfl, own_alloc' ho5 _, below_a hS5⟩)
          | fail
  case rest =>
    obtain ⟨g, av, kk, rfl, hR, hoW, hbW⟩ := hcut
    have hH := Below.drewn hbW
    have hr1W := hr13.next hH
    have hreW := hre.mono hH
    have hyW := RdB.of_own hoW
    obtain ⟨b0, b1, b2, b3, b4⟩ := row5 hR
    have s1 := hb1.size
    have s2 := hb2.size
    have s3 := hb3.size
    have hb03 : Below w.heap.size w w3 := hb1.trans ((hb2.mono s1).trans (hb3.mono (by omega)))
    have hb0W := hb03.trans (hH.mono hb03.size)
    have s0W := hb0W.size
    clear hva hvb hvc hvd hra hrb hrc hrd C1 C2 C3 CF CS f1 hr12 hr13 hz2
    by_cases h0 : m0 = 16777216
    · have f2 : ((m0 : Int) != 16777216) = false := by simp; omega
      cases hok : slotOk true (m1 : Int) m2 m3 104 with
      | false =>
        have hrf : r = false := by rw [HR.out, hok]; simp
        have HRF := Lib.hid hrf
        clear hrf
        rw [hok] at CR
        clear HR hok h0
        go_wp2_with (first
          | (go_at_call 100; (with_reducible refine (C0.out _ _ _ hreW).mono ?_); rintro x w4 ⟨rfl, rfl⟩)
          | (go_at_call 64; (with_reducible refine (CR.out _ _ _ hyW).mono ?_); rintro x w8 ⟨rfl, hb8⟩; have hr18 := hr1W.next hb8; have hy8 := hyW.next hb8; obtain ⟨c0, c1, c2, c3, c4⟩ := row5 (hR.next hb8))
          | (refine wpList_buildP [] #[.bool false, .int .i64 0, .int .u64 0, .int .u64 0, .slice none 0 0] (by kernel_rfl) rfl rfl rfl ?_)
          | (apply wpList_storeRow hr18 #[.bool false, .int .i64 0, .int .u64 0, .int .u64 0, .slice none 0 0]; rfl; rfl; rfl; rfl; kernel_rfl; rfl; kernel_rfl; intro w7 hww7 hrw7 hsw7; have HWw7 := Lib.hid hww7; clear hww7))
        refine ret_rowT rfl hrw7 Try.underlying55 (n := 5) (by kernel_rfl) rfl rfl rfl ?_
        unfold RetRr
        rw [HRF.out, if_neg (by decide)]
        exact ⟨rfl, by rw [HWw7.out]; exact hb0W.trans ((hb8.mono s0W).trans (below_row _ hg1))⟩
      | true =>
        have hrf : r = true := by rw [HR.out, hok, h0]; simp
        have HRF := Lib.hid hrf
        clear hrf
        rw [hok] at CR
        clear HR hok h0
        go_wp2_with (first
          | (go_at_call 100; (with_reducible refine (C0.out _ _ _ hreW).mono ?_); rintro x w4 ⟨rfl, rfl⟩)
          | (go_at_call 64; (with_reducible refine (CR.out _ _ _ hyW).mono ?_); rintro x w8 ⟨rfl, hb8⟩; have hr18 := hr1W.next hb8; have hy8 := hyW.next hb8; obtain ⟨c0, c1, c2, c3, c4⟩ := row5 (hR.next hb8))
          | (apply wpList_storeRow hr18 #[.bool true, .int .i64 (m1 : Int), .int .u64 (m2 : Int), .int .u64 (m3 : Int), .slice av y.length kk]; rfl; rfl; rfl; rfl; kernel_rfl; rfl; (simp [Value.oneCell']); intro w7 hww7 hrw7 hsw7; have HWw7 := Lib.hid hww7; clear hww7))
        refine ret_rowT rfl hrw7 Try.underlying55 (n := 5) (by kernel_rfl) rfl rfl rfl ?_
        unfold RetRr
        rw [HRF.out, if_pos rfl]
        have hbl : Below w.heap.size w w7 := by rw [HWw7.out]; exact hb0W.trans ((hb8.mono s0W).trans (below_row _ hg1))
        have ho7 : w7.ownsRow w3.heap.size 5 1 (.slice av y.length kk) y.length (bv y) := by
          rw [HWw7.out]
          exact own_setRow17 (own_next hoW hb8) (by omega) _
        exact ⟨av, kk, rfl, RdB.of_own ho7, hbl⟩
    · have f2 : ((m0 : Int) != 16777216) = true := by simp; omega
      have hrf : r = false := by rw [HR.out]; simp [h0]
      have HRF := Lib.hid hrf
      clear hrf
      clear HR h0
      go_wp2_with (first
        | (go_at_call 100; (with_reducible refine (C0.out _ _ _ hreW).mono ?_); rintro x w4 ⟨rfl, rfl⟩)
        | (refine wpList_buildP [] #[.bool false, .int .i64 0, .int .u64 0, .int .u64 0, .slice none 0 0] (by kernel_rfl) rfl rfl rfl ?_)
        | (apply wpList_storeRow hr1W #[.bool false, .int .i64 0, .int .u64 0, .int .u64 0, .slice none 0 0]; rfl; rfl; rfl; rfl; kernel_rfl; rfl; kernel_rfl; intro w7 hww7 hrw7 hsw7; have HWw7 := Lib.hid hww7; clear hww7))
      refine ret_rowT rfl hrw7 Try.underlying55 (n := 5) (by kernel_rfl) rfl rfl rfl ?_
      unfold RetRr
      rw [HRF.out, if_neg (by decide)]
      exact ⟨rfl, by rw [HWw7.out]; exact hb0W.trans (below_row _ hg1)⟩
end Go.Proofs.Ytfinekmegiengaa
