/- The walk of the law AesNil. -/
import Derived.Test.YtfinekmegiengaaL07
namespace Go.Proofs.Ytfinekmegiengaa
open Go.RowKit Nep
set_option maxRecDepth 100000
set_option linter.unusedVariables false
set_option linter.unusedSimpArgs false
set_option maxHeartbeats 1000000

theorem zero_cell (w : World) : (w.alloc (.cells #[.slice none 0 0] 53)).cell? ⟨w.heap.size, 0, none⟩ = some (.slice none 0 0) := (Row.new w 53 #[.slice none 0 0]).cell (i := 0) rfl
theorem right_zero (kb : Nat) (v : Value) (w : World) (hc : w.cell? ⟨kb, 0, none⟩ = some (.slice none 0 0)) : Calls Try.prog 108 #[.pointer (some ⟨kb, 0, none⟩), v] w (RetP (.bool false) w) := by
  go_enter Try.func108, Try.ntmps108
  go_wp2_with (first
    | (apply wpList_len (t := 51) (by rfl) rfl Try.underlying51 rfl (RdS.nil 0 16 _)))
  go_ret
  exact ⟨rfl, rfl⟩
theorem encrypt_zero (kb : Nat) (v : Value) (w : World) (hc : w.cell? ⟨kb, 0, none⟩ = some (.slice none 0 0)) : Calls Try.prog 42 #[.pointer (some ⟨kb, 0, none⟩), v] w (RetE 2 w) := by
  have C := right_zero kb v w hc
  go_enter Try.func42, Try.ntmps42
  go_wp2_with (first | (go_at_call 108; refine C.mono ?_; rintro e w1 ⟨rfl, rfl⟩))
  go_ret2
  exact ⟨rfl, Below.refl _ _⟩
theorem decrypt_zero (kb : Nat) (v : Value) (w : World) (hc : w.cell? ⟨kb, 0, none⟩ = some (.slice none 0 0)) : Calls Try.prog 48 #[.pointer (some ⟨kb, 0, none⟩), v] w (RetE 2 w) := by
  have C := right_zero kb v w hc
  go_enter Try.func48, Try.ntmps48
  go_wp2_with (first | (go_at_call 108; refine C.mono ?_; rintro e w1 ⟨rfl, rfl⟩))
  go_ret2
  exact ⟨rfl, Below.refl _ _⟩

theorem aesNil_walk (v : Value) (w : World) : Calls Try.prog 11 #[v] w (RetB (.bool true) w) := by
  have B := Below.refl w.heap.size w
  go_enter Try.func11, Try.ntmps11
  go_wp2_with (first
    | (go_at_call 42; refine (encrypt_zero w2.heap.size _ _ (zero_cell w2)).mono ?_; rintro e w3 ⟨rfl, hb3⟩; have hz3 := (hb3.cell (by exact World.block_lt_of_cell? _ _ (zero_cell w2))).trans (zero_cell w2); have hbz := (Below.refl w2.heap.size w2).alloc (Nat.le_refl _) (.cells #[.slice none 0 0] 53))
    | (go_at_call 48; refine (decrypt_zero w2.heap.size _ _ hz3).mono ?_; rintro e w4 ⟨rfl, hb4⟩)
    | (go_at_call 42; refine (encrypt_nil _ _).mono ?_; rintro e w1 ⟨rfl, hb1⟩)
    | (go_at_call 48; refine (decrypt_nil _ _).mono ?_; rintro e w2 ⟨rfl, hb2⟩)
    | (go_at_call 38; refine (awake07 _).mono ?_; rintro e w5 ⟨rfl, hb5⟩))
  go_ret
  have s1 := hb1.size
  have s2 := hb2.size
  have s3 := hbz.size
  have s4 := hb3.size
  have s5 := hb4.size
  exact RetB.mk rfl (hb1.trans ((hb2.mono s1).trans ((hbz.mono (by omega)).trans ((hb3.mono (by omega)).trans ((hb4.mono (by omega)).trans (hb5.mono (by omega)))))))
theorem aesNil_walk' (v : Value) (l : List Nat) (w : World) (hl : Bytes l) (hr : RdB w.heap.size w v l) (hn : l.length ≤ 140737488351232) : Calls Try.prog 11 #[v] w (RetB (.bool true) w) := aesNil_walk v w
end Go.Proofs.Ytfinekmegiengaa
