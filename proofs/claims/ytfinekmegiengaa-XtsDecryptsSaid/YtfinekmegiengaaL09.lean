/- The walks of the laws of layer 9: awake. -/
import Derived.Test.YtfinekmegiengaaW09c
import Derived.Deep.DrawnRows
namespace Nep
def zeroX : List Nat := xtsN (encE (List.replicate 32 0)) (encE (List.replicate 32 0) (List.replicate 16 0)) (List.replicate 32 0) 2
theorem zeroX_first : (zeroX.getD 0 0 == 0) = false := by decide +kernel
end Nep
namespace Go.Proofs.Ytfinekmegiengaa
open Go.RowKit Nep
set_option maxRecDepth 100000
set_option linter.unusedVariables false
set_option linter.unusedSimpArgs false
set_option maxHeartbeats 1000000
attribute [local go_sem ↓] Go.wp_at_zero Go.wp_at_succ

theorem bytes_rep (n : Nat) : Bytes (List.replicate n 0) := fun x hx => by rw [List.eq_of_mem_replicate hx]; omega
/-- a row of noughts -/
@[irreducible] def zrow (n : Nat) : Array Value := (bv (List.replicate n 0)).toArray
theorem zrow_eq (n : Nat) : zrow n = (bv (List.replicate n 0)).toArray := by unfold zrow; rfl
theorem run_makeB (n : Nat) (hn : n ≤ 100000) (w : World) : (Instr.makeSlice 28 (.int .i64 (n : Int)) (.int .i64 (n : Int))).run Try.prog w = .ok (.slice (some ⟨w.heap.size, 0, none⟩) n n) (w.alloc (.cells (zrow n) 5)) := by
  obtain ⟨i, hi, hz, hs, hb⟩ := info_parts info_u8
  have hrun := run_make (P := Try.prog) w 28 5 i _ Try.underlying28 hi hz .i64 .i64 (n : Int) (n : Int) (by omega) (by omega) (by rw [hb]; omega) (by omega)
  have hcells : madeCells (Value.int .u8 0).cells ((n : Int).toNat * i.size) = (bv (List.replicate n 0)).toArray := by
    rw [hs, Nat.mul_one, Int.toNat_natCast]
    apply Array.ext'
    rw [show (Value.int .u8 0).cells = #[Value.int .u8 0] from rfl, toList_madeCells_one]
    simp [bv]
  rw [hcells, Int.toNat_natCast] at hrun
  rw [zrow_eq]
  exact hrun
theorem zrow_new (w : World) (n g : Nat) (hg : g = w.heap.size) : RdB (w.alloc (.cells (zrow n) 5)).heap.size (w.alloc (.cells (zrow n) 5)) (.slice (some ⟨g, 0, none⟩) n n) (List.replicate n 0) := by
  subst hg
  rw [zrow_eq]
  exact (rdb_of_row (Row.new w 5 (bv (List.replicate n 0)).toArray) (n := n) (by simp)).up (by rw [World.alloc_size']; exact Nat.le_refl _)
theorem zrow_old (w : World) (n g : Nat) (hg : g = w.heap.size) (o : Obj) : RdB ((w.alloc (.cells (zrow n) 5)).alloc o).heap.size ((w.alloc (.cells (zrow n) 5)).alloc o) (.slice (some ⟨g, 0, none⟩) n n) (List.replicate n 0) :=
  (RdB.alloc (zrow_new w n g hg) o).up (by rw [World.alloc_size' _ o]; omega)
theorem awake09 (w : World) : Calls Try.prog 54 #[] w (RetB (.bool true) w) := by
  obtain ⟨k, hk⟩ : ∃ k, k = List.replicate 32 0 := ⟨_, rfl⟩
  obtain ⟨t, ht⟩ : ∃ t, t = List.replicate 16 0 := ⟨_, rfl⟩
  have hkl : k.length = 32 := by rw [hk]; simp
  have htl : t.length = 16 := by rw [ht]; simp
  have hkb : Bytes k := by rw [hk]; exact bytes_rep 32
  have htb : Bytes t := by rw [ht]; exact bytes_rep 16
  have hsec : SecOk k := ⟨by omega, by omega, by omega⟩
  obtain ⟨x, hx⟩ : ∃ x, x = xtsN (encE k) (encE k t) k (k.length / 16) := ⟨_, rfl⟩
  have hxz : x = zeroX := by rw [hx, hkl, hk, ht]; rfl
  have hxl : x.length = 32 := by
    rw [hx, (xtsN_blk (encE_blocks k hkl hkb) (n := 2) (encE_blocks k hkl hkb t htl htb).1 (encE_blocks k hkl hkb t htl htb).2 (by omega) hkb _ (by omega)).1, hkl]
  obtain ⟨x0, hx0⟩ : ∃ x0, x0 = x.getD 0 0 := ⟨_, rfl⟩
  have hx00 : ((x0 : Int) != 0) = true := by
    have h := zeroX_first
    rw [← hxz, ← hx0] at h
    simp at h ⊢
    omega
  have C1 : RowKit.Hid (∀ v w, RdB w.heap.size w v k → Calls Try.prog 55 #[v, v] w (RetC (flatL k) (flatL k) w)) := Lib.hid (fun v w h => xnew_calls v v k k w hkb hkb h h hkl hkl)
  have C2 : RowKit.Hid (∀ p vt vs w, CipherAt w.heap.size w p (flatL k) (flatL k) → RdB w.heap.size w vt t → RdB w.heap.size w vs k → Calls Try.prog 56 #[p, vt, vs] w (RetSE x w)) := Lib.hid (fun p vt vs w hc h1 h2 => hx ▸ xenc_calls p vt vs k k t k w hkl hkb hkl hkb hc htb h1 htl hkb h2 hsec)
  have HK := Lib.hid hk
  have HT := Lib.hid ht
  have HXL := Lib.hid hxl
  have HX0 := Lib.hid hx0
  generalize flatL k = rk at *
  clear hk ht hkl htl hkb htb hsec hx hxz hxl hx0
  go_enter Try.func54, Try.ntmps54
  go_wp2_with (first
    | (apply wpList_makeBytes (n := 32); rfl; rfl; rfl; rfl; omega; intro g1 w1 hg1 hg1' hr1 hb1; have hk1 := (rdb_of_row hr1 (n := 32) (by simp)).up hg1')
    | (go_at_call 55; refine (C1.out _ _ (by rw [HK.out]; exact hk1)).mono ?_; rintro e w2 ⟨p, rfl, hc2, hb2⟩))
  have hm16 : ∀ w, (Instr.makeSlice 28 (.int .i64 16) (.int .i64 16)).run Try.prog w = .ok (.slice (some ⟨w.heap.size, 0, none⟩) 16 16) (w.alloc (.cells (zrow 16) 5)) := run_makeB 16 (by omega)
  have hm32 : ∀ w, (Instr.makeSlice 28 (.int .i64 32) (.int .i64 32)).run Try.prog w = .ok (.slice (some ⟨w.heap.size, 0, none⟩) 32 32) (w.alloc (.cells (zrow 32) 5)) := run_makeB 32 (by omega)
  have hcd : CipherAt w2.drew.heap.size w2.drew p rk rk := hc2.next (Below.refl _ _).drew
  go_region_held3 (fun w' => Below w2.heap.size w2.drew w')
    (first | exact Below.refl _ _ | exact (‹Below _ w2.drew _›).trans (hb5.mono (‹Below _ w2.drew _›).size) | exact (‹Below _ w2.drew _›).alloc (‹Below _ w2.drew _›).size _)
    (first | (go_at_call 56; refine (C2.out _ _ _ _ (hcd.next ‹Below _ w2.drew _›) (by rw [HT.out]; first | exact zrow_old w2.drew 16 _ (by simp) _ | exact zrow_new _ 16 _ (by simp)) (by rw [HK.out]; first | exact zrow_new _ 32 _ (by simp) | exact zrow_old w2.drew 32 _ (by simp) _)).mono ?_; rintro e w5 ⟨v5, rfl, ho5, hb5⟩))
  all_goals
    have hH := (Below.refl w2.heap.size w2).drew.trans (‹Below _ w2.drew _›)
    go_wp2_with (first
      | (refine wpList_lenB (RdB.of_own ho5) rfl rfl rfl ?_; rw [HXL.out])
      | (apply wpList_indexB (RdB.of_own ho5) 0; rw [HXL.out]; omega; rfl; rfl; rfl; rfl; rfl; rw [← HX0.out]; intro p0 hp0 hc0))
    go_ret
    exact RetB.mk rfl (hb1.trans ((hb2.mono hb1.size).trans (hH.mono (Nat.le_trans hb1.size hb2.size))))
end Go.Proofs.Ytfinekmegiengaa
