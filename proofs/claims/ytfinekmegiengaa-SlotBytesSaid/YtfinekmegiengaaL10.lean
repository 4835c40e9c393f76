/- The walks of the laws of layer 10: awake, WrapBack, WrapAgain. -/
import Derived.Test.YtfinekmegiengaaW10c
import Derived.Test.YtfinekmegiengaaL07s
namespace Nep
def wrapT (key l : List Nat) (n : Nat) : List Nat := flatP (wrapAR (encE key) n (ivA, parts8 l n) (6 * n))
def unT (key x : List Nat) (n : Nat) : List Nat × List (List Nat) := unAR (decE key) n (6 * n) (x.take 8, parts8 (x.drop 8) n) (6 * n)
theorem wrapT_st (key l : List Nat) (n : Nat) (hk : key.length = 32) (hkb : ∀ y ∈ key, y < 256) (hl : l.length = 8 * n) (hlb : ∀ y ∈ l, y < 256) (hn : 0 < n) : St n (wrapAR (encE key) n (ivA, parts8 l n) (6 * n)) :=
  wrapAR_st (encE_blocks key hk hkb) hn (st_parts hl hlb ivA_oct) _
theorem wrapT_blk (key l : List Nat) (n : Nat) (hk : key.length = 32) (hkb : ∀ y ∈ key, y < 256) (hl : l.length = 8 * n) (hlb : ∀ y ∈ l, y < 256) (hn : 0 < n) : (wrapT key l n).length = 8 * (n + 1) ∧ ∀ y ∈ wrapT key l n, y < 256 :=
  ⟨flatP_length (wrapT_st key l n hk hkb hl hlb hn), flatP_bytes (wrapT_st key l n hk hkb hl hlb hn)⟩
theorem flatP_back {n : Nat} {q : List Nat × List (List Nat)} (h : St n q) : ((flatP q).take 8, parts8 ((flatP q).drop 8) n) = q := by
  obtain ⟨h1, h2, h3⟩ := h
  unfold flatP
  rw [List.take_left' h1.1, List.drop_left' h1.1, ← h2, parts8_flat h3]
theorem unT_wrapT (key l : List Nat) (n : Nat) (hk : key.length = 32) (hkb : ∀ y ∈ key, y < 256) (hl : l.length = 8 * n) (hlb : ∀ y ∈ l, y < 256) (hn : 0 < n) : unT key (wrapT key l n) n = (ivA, parts8 l n) := by
  unfold unT wrapT
  rw [flatP_back (wrapT_st key l n hk hkb hl hlb hn), un_wrap_all (encE_blocks key hk hkb) (decE_encE key hk hkb) hn (st_parts hl hlb ivA_oct) (6 * n) (Nat.le_refl _), Nat.sub_self]
  rfl
theorem unT_st (key x : List Nat) (n : Nat) (hk : key.length = 32) (hkb : ∀ y ∈ key, y < 256) (hl : x.length = 8 * (n + 1)) (hlb : ∀ y ∈ x, y < 256) (hn : 0 < n) : St n (unT key x n) :=
  unAR_st (decE_blocks key hk hkb) hn (st_parts (by rw [List.length_drop]; omega) (fun y hy => hlb y (List.mem_of_mem_drop hy)) ⟨by rw [List.length_take]; omega, fun y hy => hlb y (List.mem_of_mem_take hy)⟩) _
theorem wrapT_unT (key x : List Nat) (n : Nat) (hk : key.length = 32) (hkb : ∀ y ∈ key, y < 256) (hl : x.length = 8 * (n + 1)) (hlb : ∀ y ∈ x, y < 256) (hn : 0 < n) (h : (unT key x n).1 = ivA) :
    (unT key x n).2.flatten.length = 8 * n ∧ (∀ y ∈ (unT key x n).2.flatten, y < 256) ∧ wrapT key (unT key x n).2.flatten n = x := by
  have hst := unT_st key x n hk hkb hl hlb hn
  have hst2 := hst
  obtain ⟨h1, h2, h3⟩ := hst
  refine ⟨by rw [flat8_length h3, h2], fun y hy => flatP_bytes hst2 y (List.mem_append_right _ hy), ?_⟩
  have h0 : St n (x.take 8, parts8 (x.drop 8) n) := st_parts (by rw [List.length_drop]; omega) (fun y hy => hlb y (List.mem_of_mem_drop hy)) ⟨by rw [List.length_take]; omega, fun y hy => hlb y (List.mem_of_mem_take hy)⟩
  have e1 : parts8 (unT key x n).2.flatten n = (unT key x n).2 := by
    have := parts8_flat h3
    rwa [h2] at this
  have e2 : (ivA, (unT key x n).2) = unT key x n := by rw [← h]
  unfold wrapT
  rw [e1, e2]
  unfold unT
  rw [wrap_un_all (decE_blocks key hk hkb) (encE_decE key hk hkb) hn h0 (6 * n) (Nat.le_refl _), Nat.sub_self]
  show flatP (x.take 8, parts8 (x.drop 8) n) = x
  rw [flatP_parts (by rw [List.length_drop]; omega), List.take_append_drop]
end Nep
namespace Go.Proofs.Ytfinekmegiengaa
open Go.RowKit Nep
set_option maxRecDepth 100000
set_option linter.unusedVariables false
set_option linter.unusedSimpArgs false
set_option maxHeartbeats 2000000
attribute [local go_sem ↓] Go.wp_at_zero Go.wp_at_succ

theorem retU_yes {p : List Nat × List (List Nat)} (h : p.1 = ivA) (w : World) : RetU p w = RetSE p.2.flatten w := by funext e w'; unfold RetU; rw [if_pos h]
theorem retU_no {p : List Nat × List (List Nat)} (h : p.1 ≠ ivA) (w : World) : RetU p w = RetE 16 w := by funext e w'; unfold RetU; rw [if_neg h]
/-- a row of noughts -/
@[irreducible] def zrow (n : Nat) : Array Value := (bv (List.replicate n 0)).toArray
theorem zrow_eq (n : Nat) : zrow n = (bv (List.replicate n 0)).toArray := by unfold zrow; rfl
theorem run_makeB (n : Nat) (hn : n ≤ 100000) (w : World) : (Instr.makeSlice 28 (.int .i64 (n : Int)) (.int .i64 (n : Int))).run Try.prog w = .ok (.slice (some ⟨w.heap.size, 0, none⟩) n n) (w.alloc (.cells (zrow n) 5)) := by
  obtain ⟨i, hi, hz, hs, hb⟩ := info_parts info_u8
  have hrun := run_make (P := Try.prog) w 28 5 i _ Try.underlying28 hi hz .i64 .i64 (n : Int) (n : Int) (by omega) (by omega) (by rw [hb]; omega) (by omega)
  have hcells : madeCells (Value.int .u8 0).cells ((n : Int).toNat * i.size) = (bv (List.replicate n 0)).toArray := by
    rw [hs, Nat.mul_one, Int.toNat_natCast]
    apply Array.ext'
    rw [show (Value.int .u8 0).cells = #[Value.int .u8 0] from rfl, toList_madeCells_one]
    simp [bv]
  rw [hcells, Int.toNat_natCast] at hrun
  rw [zrow_eq]
  exact hrun
theorem zrow_new (w : World) (n g : Nat) (hg : g = w.heap.size) : RdB (w.alloc (.cells (zrow n) 5)).heap.size (w.alloc (.cells (zrow n) 5)) (.slice (some ⟨g, 0, none⟩) n n) (List.replicate n 0) := by
  subst hg
  rw [zrow_eq]
  exact (rdb_of_row (Row.new w 5 (bv (List.replicate n 0)).toArray) (n := n) (by simp)).up (by rw [World.alloc_size']; exact Nat.le_refl _)
theorem zrow_old (w : World) (n g : Nat) (hg : g = w.heap.size) (o : Obj) : RdB ((w.alloc (.cells (zrow n) 5)).alloc o).heap.size ((w.alloc (.cells (zrow n) 5)).alloc o) (.slice (some ⟨g, 0, none⟩) n n) (List.replicate n 0) :=
  (RdB.alloc (zrow_new w n g hg) o).up (by rw [World.alloc_size' _ o]; omega)

theorem unwrap_back (v1 v2 : Value) (key l : List Nat) (n : Nat) (w : World) (hkb : Bytes key) (hr1 : RdB w.heap.size w v1 key) (h32 : key.length = 32) (hlb : Bytes l) (hl : l.length = 8 * n) (hr2 : RdB w.heap.size w v2 (wrapT key l n)) (hn2 : 2 ≤ n) (hn32 : n ≤ 32) :
    Calls Try.prog 71 #[v1, v2] w (RetSE l w) := by
  have hb := wrapT_blk key l n h32 hkb hl hlb (by omega)
  have h := unwrap_calls v1 v2 key (wrapT key l n) n w hkb hr1 h32 hb.2 hr2 hb.1 hn2 hn32
  have e := unT_wrapT key l n h32 hkb hl hlb (by omega)
  unfold unT at e
  rw [e] at h
  have e2 : (parts8 l n).flatten = l := by rw [parts8_flatten, List.take_of_length_le (by omega)]
  rw [retU_yes rfl, e2] at h
  exact h

theorem awake10 (w : World) : Calls Try.prog 67 #[] w (RetB (.bool true) w) := by
  obtain ⟨k, hk⟩ : ∃ k, k = List.replicate 32 0 := ⟨_, rfl⟩
  obtain ⟨t, ht⟩ : ∃ t, t = List.replicate 16 0 := ⟨_, rfl⟩
  have hkl : k.length = 32 := by rw [hk]; simp
  have htl : t.length = 16 := by rw [ht]; simp
  have hkb : Bytes k := by rw [hk]; exact bytes_rep 32
  have htb : Bytes t := by rw [ht]; exact bytes_rep 16
  obtain ⟨x, hx⟩ : ∃ x, x = wrapT k t 2 := ⟨_, rfl⟩
  have hxl : x.length = 24 := by rw [hx]; exact (wrapT_blk k t 2 hkl hkb (by omega) htb (by omega)).1
  have C1 : RowKit.Hid (∀ vk vt w, RdB w.heap.size w vk k → RdB w.heap.size w vt t → Calls Try.prog 68 #[vk, vt] w (RetSE x w)) := Lib.hid (fun vk vt w h1 h2 => hx ▸ wrap_calls vk vt k t 2 w hkb h1 hkl htb h2 (by omega) (by omega) (by omega))
  have C2 : RowKit.Hid (∀ vk vx w, RdB w.heap.size w vk k → RdB w.heap.size w vx x → Calls Try.prog 71 #[vk, vx] w (RetSE t w)) := Lib.hid (fun vk vx w h1 h2 => unwrap_back vk vx k t 2 w hkb h1 hkl htb (by omega) (hx ▸ h2) (by omega) (by omega))
  have HK := Lib.hid hk
  have HT := Lib.hid ht
  have HTL := Lib.hid htl
  have HXL := Lib.hid hxl
  clear hk ht hkl htl hkb htb hx hxl
  have hm16 : ∀ w, (Instr.makeSlice 28 (.int .i64 16) (.int .i64 16)).run Try.prog w = .ok (.slice (some ⟨w.heap.size, 0, none⟩) 16 16) (w.alloc (.cells (zrow 16) 5)) := run_makeB 16 (by omega)
  have hm32 : ∀ w, (Instr.makeSlice 28 (.int .i64 32) (.int .i64 32)).run Try.prog w = .ok (.slice (some ⟨w.heap.size, 0, none⟩) 32 32) (w.alloc (.cells (zrow 32) 5)) := run_makeB 32 (by omega)
  go_enter Try.func67, Try.ntmps67
  go_wp2_with fail
  go_region_held3 (fun w' => Below w.heap.size w.drew w')
    (first | exact Below.refl _ _ | exact (‹Below _ w.drew _›).trans (hb5.mono (‹Below _ w.drew _›).size) | exact (‹Below _ w.drew _›).alloc (‹Below _ w.drew _›).size _)
    (first | (go_at_call 68; refine (C1.out _ _ _ (by rw [HK.out]; first | exact zrow_new _ 32 _ (by simp) | exact zrow_old w.drew 32 _ (by simp) _) (by rw [HT.out]; first | exact zrow_old w.drew 16 _ (by simp) _ | exact zrow_new _ 16 _ (by simp))).mono ?_; rintro e w5 ⟨v5, rfl, ho5, hb5⟩))
  all_goals
    have hH := (Below.refl w.heap.size w).drew.trans (‹Below _ w.drew _›)
    clear hm16 hm32
    go_wp2_with (first
      | (apply wpList_makeBytes (n := 32); rfl; rfl; rfl; rfl; omega; intro g1 w6 hg1 hg1' hr1 hb6; have hk6 := (rdb_of_row hr1 (n := 32) (by simp)).up hg1'; have hx6 := (RdB.of_own ho5).next hb6)
      | (go_at_call 71; refine (C2.out _ _ _ (by rw [HK.out]; exact hk6) hx6).mono ?_; rintro e w7 ⟨v7, rfl, ho7, hb7⟩; have hx7 := hx6.next hb7)
      | (refine wpList_lenB hx7 rfl rfl rfl ?_; rw [HXL.out])
      | (refine wpList_lenB (RdB.of_own ho7) rfl rfl rfl ?_; rw [HTL.out]))
    go_ret
    exact RetB.mk rfl (hH.trans ((hb6.mono hH.size).trans (hb7.mono (Nat.le_trans hH.size hb6.size))))
end Go.Proofs.Ytfinekmegiengaa
