/- The walks of the laws of layer 17: awake. -/
import Derived.Test.YtfinekmegiengaaW17c
namespace Go.Proofs.Ytfinekmegiengaa
open Go.RowKit Nep
set_option maxRecDepth 100000
set_option linter.unusedVariables false
set_option linter.unusedSimpArgs false
set_option maxHeartbeats 1000000

theorem right_zero (w : World) : Calls Try.prog 64 #[slotV false 0 0 0 (.slice none 0 0)] w (RetB (.bool true) w) := by
  obtain ⟨v1, hv1⟩ : ∃ v1, v1 = slotV false 0 0 0 (.slice none 0 0) := ⟨_, rfl⟩
  rw [← hv1]
  have HV1 := Lib.hid hv1
  clear hv1
  go_enter Try.func64, Try.ntmps64
  go_wp2_with (first
    | (apply wpList_boxR v1; rfl; rfl; rfl; intro g1 w1 hg1 hg1' hr1 hb1; rw [HV1.out] at hr1; obtain ⟨a0, a1, a2, a3, a4⟩ := row5 hr1))
  go_ret
  exact RetB.mk rfl hb1

theorem zrow0 (w : World) (n g : Nat) (hg : g = w.heap.size) : RdB (w.alloc (.cells (zrow n) 5)).heap.size (w.alloc (.cells (zrow n) 5)) (.slice (some ⟨g, 0, none⟩) n n) (List.replicate n 0) := zrow_new w n g hg
theorem zrow1 (w : World) (n g : Nat) (hg : g = w.heap.size) (o : Obj) : RdB ((w.alloc (.cells (zrow n) 5)).alloc o).heap.size ((w.alloc (.cells (zrow n) 5)).alloc o) (.slice (some ⟨g, 0, none⟩) n n) (List.replicate n 0) := zrow_old w n g hg o
theorem zrow2 (w : World) (n g : Nat) (hg : g = w.heap.size) (o o' : Obj) : RdB (((w.alloc (.cells (zrow n) 5)).alloc o).alloc o').heap.size (((w.alloc (.cells (zrow n) 5)).alloc o).alloc o') (.slice (some ⟨g, 0, none⟩) n n) (List.replicate n 0) :=
  (RdB.alloc (zrow1 w n g hg o) o').up (by rw [World.alloc_size' _ o']; omega)
theorem alloc_row (w : World) (t : TypeId) (c : Array Value) (g : Nat) (hg : g = w.heap.size) : Row (w.alloc (.cells c t)) g t c := by subst hg; exact Row.new w t c
theorem Row.drewn {w : World} {g : Nat} {t : TypeId} {c : Array Value} (h : Row w g t c) : Row w.drew g t c := h
theorem zrow0d (w : World) (n g : Nat) (hg : g = w.heap.size) : RdB (w.alloc (.cells (zrow n) 5)).drew.heap.size (w.alloc (.cells (zrow n) 5)).drew (.slice (some ⟨g, 0, none⟩) n n) (List.replicate n 0) := zrow0 w n g hg
theorem zrow1d (w : World) (n g : Nat) (hg : g = w.heap.size) (o : Obj) : RdB ((w.alloc (.cells (zrow n) 5)).alloc o).drew.heap.size ((w.alloc (.cells (zrow n) 5)).alloc o).drew (.slice (some ⟨g, 0, none⟩) n n) (List.replicate n 0) := zrow1 w n g hg o
theorem zrow2d (w : World) (n g : Nat) (hg : g = w.heap.size) (o o' : Obj) : RdB (((w.alloc (.cells (zrow n) 5)).alloc o).alloc o').drew.heap.size (((w.alloc (.cells (zrow n) 5)).alloc o).alloc o').drew (.slice (some ⟨g, 0, none⟩) n n) (List.replicate n 0) := zrow2 w n g hg o o'
theorem rowA {w w5 : World} {t : TypeId} {c : Array Value} (hb : Below (w.alloc (.cells c t)).drew.heap.size (w.alloc (.cells c t)).drew w5) {g : Nat} (hg : g = w.heap.size) : Row w5 g t c := (Row.drewn (alloc_row w t c g hg)).next hb
theorem rowB {w w5 : World} {t : TypeId} {c : Array Value} {o : Obj} (hb : Below ((w.alloc (.cells c t)).alloc o).drew.heap.size ((w.alloc (.cells c t)).alloc o).drew w5) {g : Nat} (hg : g = w.heap.size) : Row w5 g t c := (Row.drewn ((alloc_row w t c g hg).alloc o)).next hb
theorem rowC {w w5 : World} {t : TypeId} {c : Array Value} {o o' : Obj} (hb : Below (((w.alloc (.cells c t)).alloc o).alloc o').drew.heap.size (((w.alloc (.cells c t)).alloc o).alloc o').drew w5) {g : Nat} (hg : g = w.heap.size) : Row w5 g t c := (Row.drewn (((alloc_row w t c g hg).alloc o).alloc o')).next hb
theorem below5 {B g : Nat} {w W : World} {v0 v1 v2 v3 v4 : Value} (h : Below B w W) (hg : B ≤ g) : Below B w (((((W.setCell ⟨g, 0, none⟩ v0).setCell ⟨g, 1, none⟩ v1).setCell ⟨g, 2, none⟩ v2).setCell ⟨g, 3, none⟩ v3).setCell ⟨g, 4, none⟩ v4) :=
  ((((h.setCell (by exact hg) _).setCell (by exact hg) _).setCell (by exact hg) _).setCell (by exact hg) _).setCell (by exact hg) _
theorem below_ad {w W : World} {o : Obj} (h : Below w.heap.size w.drew W.drew) : Below w.heap.size w.drew (W.alloc o).drew := h.alloc h.size o
theorem below_a {w W : World} {o : Obj} (h : Below w.heap.size w.drew W) : Below w.heap.size w.drew (W.alloc o) := h.alloc h.size o
theorem below_call {w W w5 : World} (hb : Below W.heap.size W w5) (h : Below w.heap.size w.drew W) : Below w.heap.size w.drew w5 := h.trans (hb.mono h.size)
theorem awake17 (w : World) : Calls Try.prog 53 #[] w (RetB (.bool true) w) := by
  obtain ⟨k, hk⟩ : ∃ k, k = List.replicate 32 0 := ⟨_, rfl⟩
  obtain ⟨t, ht⟩ : ∃ t, t = List.replicate 96 0 := ⟨_, rfl⟩
  have hkl : k.length = 32 := by rw [hk]; simp
  have htl : t.length = 96 := by rw [ht]; simp
  have hkb : Bytes k := by rw [hk]; exact bytes_rep 32
  have htb : Bytes t := by rw [ht]; exact bytes_rep 96
  obtain ⟨y, hy⟩ : ∃ y, y = wrapT k t 12 := ⟨_, rfl⟩
  have hyl : y.length = 104 := by rw [hy]; exact (wrapT_blk k t 12 hkl hkb (by omega) htb (by omega)).1
  have C1 : RowKit.Hid (∀ vk vt w, RdB w.heap.size w vk k → RdB w.heap.size w vt t → Calls Try.prog 75 #[vk, .int .i64 5, .agg #[.int .i64 0, .int .i64 0, .int .i64 0, .int .u32 0, .int .u64 0, .int .u64 2], vt] w (RetSl true 5 0 2 y w)) := Lib.hid (fun vk vt w h1 h2 => hy ▸ make_calls vk vt k t 5 0 0 0 0 0 2 w (by omega) (by omega) hkb hkl h1 htb htl h2)
  have HK := Lib.hid hk
  have HT := Lib.hid ht
  have HYL := Lib.hid hyl
  clear hk ht hkl htl hkb htb hy hyl
  have hm96 : ∀ w, (Instr.makeSlice 28 (.int .i64 96) (.int .i64 96)).run Try.prog w = .ok (.slice (some ⟨w.heap.size, 0, none⟩) 96 96) (w.alloc (.cells (zrow 96) 5)) := run_makeB 96 (by omega)
  have hm32 : ∀ w, (Instr.makeSlice 28 (.int .i64 32) (.int .i64 32)).run Try.prog w = .ok (.slice (some ⟨w.heap.size, 0, none⟩) 32 32) (w.alloc (.cells (zrow 32) 5)) := run_makeB 32 (by omega)
  have hbuild : Try.prog.built 57 [(5, .int .u64 2)] = some #[.int .i64 0, .int .i64 0, .int .i64 0, .int .u32 0, .int .u64 0, .int .u64 2] := by kernel_rfl
  have hbr : ∀ w, (Instr.build 57 #[(5, .int .u64 2)]).run Try.prog w = .ok (.agg #[.int .i64 0, .int .i64 0, .int .i64 0, .int .u32 0, .int .u64 0, .int .u64 2]) w := fun w => run_build _ _ _ _ hbuild
  clear hbuild
  go_enter Try.func53, Try.ntmps53
  go_wp2_with fail
  go_region_held3 (fun w' => Below w.heap.size w.drew w')
    (first | (with_reducible exact Below.refl _ _) | (with_reducible exact hS5) | (with_reducible exact below_ad (by assumption)) | (with_reducible exact below_a (by assumption)) | (with_reducible refine below5 (by assumption) ?_; first | omega | exact hS5.size))
    (first
      | (go_at_call 75; refine (C1.out _ _ _ (by rw [HK.out]; first | (with_reducible exact zrow0d _ 32 _ (by first | rfl | simp)) | (with_reducible exact zrow1d _ 32 _ (by first | rfl | simp) _) | (with_reducible exact zrow2d _ 32 _ (by first | rfl | simp) _ _)) (by rw [HT.out]; first | (with_reducible exact zrow0d _ 96 _ (by first | rfl | simp)) | (with_reducible exact zrow1d _ 96 _ (by first | rfl | simp) _) | (with_reducible exact zrow2d _ 96 _ (by first | rfl | simp) _ _))).mono ?_; rintro e w5 ⟨av, m, kk, rfl, ho5, hb5⟩; have hS5 := below_call (w := w) hb5 (by assumption); (first | ((have hrow : Row w5 (w.heap.size + 1 + 1) 55 #[.bool false, .int .i64 0, .int .u64 0, .int .u64 0, .slice none 0 0] := by (with_reducible refine rowA hb5 ?_); simp); (obtain ⟨b0, b1, b2, b3, b4⟩ := row5 hrow; have q0 := hrow.free 0; have q1 := hrow.free 1; have q2 := hrow.free 2; have q3 := hrow.free 3; have q4 := hrow.free 4)) | ((have hrow : Row w5 (w.heap.size + 1) 55 #[.bool false, .int .i64 0, .int .u64 0, .int .u64 0, .slice none 0 0] := by (with_reducible refine rowB hb5 ?_); simp); (obtain ⟨b0, b1, b2, b3, b4⟩ := row5 hrow; have q0 := hrow.free 0; have q1 := hrow.free 1; have q2 := hrow.free 2; have q3 := hrow.free 3; have q4 := hrow.free 4)) | ((have hrow : Row w5 (w.heap.size) 55 #[.bool false, .int .i64 0, .int .u64 0, .int .u64 0, .slice none 0 0] := by (with_reducible refine rowC hb5 ?_); simp); (obtain ⟨b0, b1, b2, b3, b4⟩ := row5 hrow; have q0 := hrow.free 0; have q1 := hrow.free 1; have q2 := hrow.free 2; have q3 := hrow.free 3; have q4 := hrow.free 4)) | skip); unfold slotV))
  all_goals
    have hm : m = 104 := by
      obtain ⟨_, a', c', hv, _⟩ := RdB.of_own ho5
      injection hv with _ h2 _
      rw [h2, HYL.out]
    subst hm
    clear hm96 hm32 C1 HK HT HYL hbr ho5
    (first
      | (obtain ⟨W, hW⟩ : ∃ W, W = w5.alloc (.cells #[.bool true, .int .i64 5, .int .u64 0, .int .u64 2, .slice av 104 kk] 55) := ⟨_, rfl⟩
         rw [← hW]
         have hB : Below w.heap.size w.drew W := by rw [hW]; exact below_a hS5
         have hR : ∃ g, g = w5.heap.size ∧ Row W g 55 #[.bool true, .int .i64 5, .int .u64 0, .int .u64 2, .slice av 104 kk] := ⟨_, rfl, by rw [hW]; exact alloc_row w5 _ _ _ rfl⟩
         obtain ⟨g, hg, hR⟩ := hR
         rw [← hg]
         clear hW hg)
      | (have hq : Row w5 (w.heap.size + 1 + 1) 55 #[.bool false, .int .i64 0, .int .u64 0, .int .u64 0, .slice none 0 0] := by with_reducible assumption
         clear hq
         have hB := below5 (v0 := .bool true) (v1 := .int .i64 5) (v2 := .int .u64 0) (v3 := .int .u64 2) (v4 := .slice av 104 kk) hS5 (Nat.le_trans (by omega) (Nat.le_refl (w.heap.size + 1 + 1)))
         have hR0 := (((((hrow.set 0 (.bool true)).set 1 (.int .i64 5)).set 2 (.int .u64 0)).set 3 (.int .u64 2)).set 4 (.slice av 104 kk))
         have hR : Row (((((w5.setCell ⟨w.heap.size + 1 + 1, 0, none⟩ (.bool true)).setCell ⟨w.heap.size + 1 + 1, 1, none⟩ (.int .i64 5)).setCell ⟨w.heap.size + 1 + 1, 2, none⟩ (.int .u64 0)).setCell ⟨w.heap.size + 1 + 1, 3, none⟩ (.int .u64 2)).setCell ⟨w.heap.size + 1 + 1, 4, none⟩ (.slice av 104 kk)) (w.heap.size + 1 + 1) 55 #[.bool true, .int .i64 5, .int .u64 0, .int .u64 2, .slice av 104 kk] := hR0
         clear hR0
         generalize (((((w5.setCell ⟨w.heap.size + 1 + 1, 0, none⟩ (.bool true)).setCell ⟨w.heap.size + 1 + 1, 1, none⟩ (.int .i64 5)).setCell ⟨w.heap.size + 1 + 1, 2, none⟩ (.int .u64 0)).setCell ⟨w.heap.size + 1 + 1, 3, none⟩ (.int .u64 2)).setCell ⟨w.heap.size + 1 + 1, 4, none⟩ (.slice av 104 kk)) = W at *
         generalize w.heap.size + 1 + 1 = g at *)
      | (have hq : Row w5 (w.heap.size + 1) 55 #[.bool false, .int .i64 0, .int .u64 0, .int .u64 0, .slice none 0 0] := by with_reducible assumption
         clear hq
         have hB := below5 (v0 := .bool true) (v1 := .int .i64 5) (v2 := .int .u64 0) (v3 := .int .u64 2) (v4 := .slice av 104 kk) hS5 (Nat.le_trans (by omega) (Nat.le_refl (w.heap.size + 1)))
         have hR0 := (((((hrow.set 0 (.bool true)).set 1 (.int .i64 5)).set 2 (.int .u64 0)).set 3 (.int .u64 2)).set 4 (.slice av 104 kk))
         have hR : Row (((((w5.setCell ⟨w.heap.size + 1, 0, none⟩ (.bool true)).setCell ⟨w.heap.size + 1, 1, none⟩ (.int .i64 5)).setCell ⟨w.heap.size + 1, 2, none⟩ (.int .u64 0)).setCell ⟨w.heap.size + 1, 3, none⟩ (.int .u64 2)).setCell ⟨w.heap.size + 1, 4, none⟩ (.slice av 104 kk)) (w.heap.size + 1) 55 #[.bool true, .int .i64 5, .int .u64 0, .int .u64 2, .slice av 104 kk] := hR0
         clear hR0
         generalize (((((w5.setCell ⟨w.heap.size + 1, 0, none⟩ (.bool true)).setCell ⟨w.heap.size + 1, 1, none⟩ (.int .i64 5)).setCell ⟨w.heap.size + 1, 2, none⟩ (.int .u64 0)).setCell ⟨w.heap.size + 1, 3, none⟩ (.int .u64 2)).setCell ⟨w.heap.size + 1, 4, none⟩ (.slice av 104 kk)) = W at *
         generalize w.heap.size + 1 = g at *)
      | (have hq : Row w5 (w.heap.size) 55 #[.bool false, .int .i64 0, .int .u64 0, .int .u64 0, .slice none 0 0] := by with_reducible assumption
         clear hq
         have hB := below5 (v0 := .bool true) (v1 := .int .i64 5) (v2 := .int .u64 0) (v3 := .int .u64 2) (v4 := .slice av 104 kk) hS5 (Nat.le_trans (by omega) (Nat.le_refl (w.heap.size)))
         have hR0 := (((((hrow.set 0 (.bool true)).set 1 (.int .i64 5)).set 2 (.int .u64 0)).set 3 (.int .u64 2)).set 4 (.slice av 104 kk))
         have hR : Row (((((w5.setCell ⟨w.heap.size, 0, none⟩ (.bool true)).setCell ⟨w.heap.size, 1, none⟩ (.int .i64 5)).setCell ⟨w.heap.size, 2, none⟩ (.int .u64 0)).setCell ⟨w.heap.size, 3, none⟩ (.int .u64 2)).setCell ⟨w.heap.size, 4, none⟩ (.slice av 104 kk)) (w.heap.size) 55 #[.bool true, .int .i64 5, .int .u64 0, .int .u64 2, .slice av 104 kk] := hR0
         clear hR0
         generalize (((((w5.setCell ⟨w.heap.size, 0, none⟩ (.bool true)).setCell ⟨w.heap.size, 1, none⟩ (.int .i64 5)).setCell ⟨w.heap.size, 2, none⟩ (.int .u64 0)).setCell ⟨w.heap.size, 3, none⟩ (.int .u64 2)).setCell ⟨w.heap.size, 4, none⟩ (.slice av 104 kk)) = W at *
         skip))
    have hBW := (Below.refl w.heap.size w).drew.trans hB
    obtain ⟨a0, a1, a2, a3, a4⟩ := row5 hR
    clear hR hB hb5 hS5
    have hbz : Try.prog.built 55 [] = some #[.bool false, .int .i64 0, .int .u64 0, .int .u64 0, .slice none 0 0] := by kernel_rfl
    have HBZ := Lib.hid hbz
    clear hbz
    go_wp2_with (first
      | (refine wpList_buildP _ _ HBZ.out rfl rfl rfl ?_)
      | (go_at_call 64; refine (right_zero _).mono ?_; rintro e w7 ⟨rfl, hb7⟩))
    go_ret
    exact RetB.mk rfl (hBW.trans (hb7.mono hBW.size))
end Go.Proofs.Ytfinekmegiengaa
