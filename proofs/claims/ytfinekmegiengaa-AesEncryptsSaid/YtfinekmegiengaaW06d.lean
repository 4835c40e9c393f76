/- The walks of layer 6: what is put for a byte, and for which one is; for a word's bytes; awake. -/
import Derived.Test.YtfinekmegiengaaW06t
import Derived.Outline
namespace Go.Proofs.Ytfinekmegiengaa
open Go.RowKit Nep
set_option maxRecDepth 100000

theorem run_index_agg {P : Program} {T E n : Nat} {k : IntKind} (cs : Array Value) (a : Nat) (v : Value) (w : World) (hu : P.underlying T = some (.array n E)) (hi : (isAgg E).run P w = .ok false w)
    (hs : (sizeOf E).run P w = .ok 1 w) (ha : a < n) (hv : cs[a]? = some v) : (Instr.index T (.agg cs) (.int k a)).run P w = .ok v w := by
  unfold Instr.index
  simp [asIntOf, run_underlying hu, part, hi, hs, hv]
  omega

theorem index256 (c : Array Value) (a : Nat) (v : Value) (ha : a < 256) (hv : c[a]? = some v) (w : World) : (Instr.index 117 (.agg c) (.int .u8 a)).run Try.prog w = .ok v w := 
  run_index_agg c a v w Try.underlying117 (by kernel_rfl) (by kernel_rfl) ha hv

theorem sub_calls (a : Nat) {A : Int} (hA : A = a) (ha : a < 256) (w : World) :
    Calls Try.prog 29 #[.int .u8 A] w (RetB (.int .u8 (sb a)) w) := by
  subst hA
  have hi := fun w => index256 subsV a _ ha (subsV_get a ha) w
  go_enter Try.func29, Try.ntmps29
  go_wp2_with (first | (go_at_call 96; refine (tables06 _).mono ?_; rintro e w' ⟨rfl, hb⟩))
  go_ret
  exact RetB.mk rfl hb

theorem back_calls (a : Nat) {A : Int} (hA : A = a) (ha : a < 256) (w : World) :
    Calls Try.prog 31 #[.int .u8 A] w (RetB (.int .u8 (bk a)) w) := by
  subst hA
  have hi := fun w => index256 backsV a _ ha (backsV_get a ha) w
  go_enter Try.func31, Try.ntmps31
  go_wp2_with (first | (go_at_call 99; refine (backs06 _).mono ?_; rintro e w' ⟨rfl, hb⟩))
  go_ret
  exact RetB.mk rfl hb

theorem u32_join (x y i : Nat) {X Y : Int} (hx : x < 4294967296) (hy : y < 4294967296) (hm : x % 2 ^ i = 0) (hl : y < 2 ^ i) (hX : X = x) (hY : Y = y) :
    bits .or .u32 X Y = ((x + y : Nat) : Int) := by
  subst hX; subst hY
  rw [u32_or_nat x y hx hy, nat_join i x y hm hl]

/-- a word's bytes, the greatest first, put for -/
def wordS (x : Nat) : Nat := sb (x / 16777216) * 16777216 + sb (x / 65536 % 256) * 65536 + sb (x / 256 % 256) * 256 + sb (x % 256)

theorem word_calls (x : Nat) {X : Int} (hX : X = x) (hx : x < 4294967296) (w : World) :
    Calls Try.prog 33 #[.int .u32 X] w (RetB (.int .u32 (wordS x)) w) := by
  subst hX
  obtain ⟨p3, e3⟩ : ∃ p, p = sb (x / 16777216) := ⟨_, rfl⟩
  obtain ⟨p2, e2⟩ : ∃ p, p = sb (x / 65536 % 256) := ⟨_, rfl⟩
  obtain ⟨p1, e1⟩ : ∃ p, p = sb (x / 256 % 256) := ⟨_, rfl⟩
  obtain ⟨p0, e0⟩ : ∃ p, p = sb (x % 256) := ⟨_, rfl⟩
  have l3 : p3 < 256 := e3 ▸ sb_lt _
  have l2 : p2 < 256 := e2 ▸ sb_lt _
  have l1 : p1 < 256 := e1 ▸ sb_lt _
  have l0 : p0 < 256 := e0 ▸ sb_lt _
  have C3 : ∀ w, Calls Try.prog 29 #[.int .u8 ((x : Int) / 16777216)] w (RetB (.int .u8 p3) w) := fun w => e3 ▸ sub_calls _ (by omega) (by omega) w
  have C2 : ∀ w, Calls Try.prog 29 #[.int .u8 ((x : Int) / 65536 % 256)] w (RetB (.int .u8 p2) w) := fun w => e2 ▸ sub_calls _ (by omega) (by omega) w
  have C1 : ∀ w, Calls Try.prog 29 #[.int .u8 ((x : Int) / 256 % 256)] w (RetB (.int .u8 p1) w) := fun w => e1 ▸ sub_calls _ (by omega) (by omega) w
  have C0 : ∀ w, Calls Try.prog 29 #[.int .u8 ((x : Int) % 256)] w (RetB (.int .u8 p0) w) := fun w => e0 ▸ sub_calls _ (by omega) (by omega) w
  have hres : wordS x = p3 * 16777216 + p2 * 65536 + p1 * 256 + p0 := by unfold wordS; rw [e0, e1, e2, e3]
  have HR := Lib.hid hres
  clear hres e0 e1 e2 e3
  go_enter Try.func33, Try.ntmps33
  go_wp2_with (first | (go_at_call 29; first | ((with_reducible refine (C3 _).mono ?_); (rintro e w3 ⟨rfl, hb3⟩)) | ((with_reducible refine (C2 _).mono ?_); (rintro e w2 ⟨rfl, hb2⟩)) | ((with_reducible refine (C1 _).mono ?_); (rintro e w1 ⟨rfl, hb1⟩)) | ((with_reducible refine (C0 _).mono ?_); (rintro e w0 ⟨rfl, hb0⟩))))
  go_ret
  have B2 := hb3.trans (hb2.mono hb3.size)
  have B1 := B2.trans (hb1.mono B2.size)
  refine RetB.mk (val_int ?_) (B1.trans (hb0.mono B1.size))
  rw [HR.out]
  have f1 : bits .or .u32 ((p3 : Int) * 16777216) ((p2 : Int) * 65536) = ((p3 * 16777216 + p2 * 65536 : Nat) : Int) := u32_join _ _ 24 (by omega) (by omega) (by omega) (by omega) (by omega) (by omega)
  have f2 : bits .or .u32 ((p3 * 16777216 + p2 * 65536 : Nat) : Int) ((p1 : Int) * 256) = ((p3 * 16777216 + p2 * 65536 + p1 * 256 : Nat) : Int) := u32_join _ _ 16 (by omega) (by omega) (by omega) (by omega) (by omega) (by omega)
  have f3 : bits .or .u32 ((p3 * 16777216 + p2 * 65536 + p1 * 256 : Nat) : Int) (p0 : Int) = ((p3 * 16777216 + p2 * 65536 + p1 * 256 + p0 : Nat) : Int) := u32_join _ _ 8 (by omega) (by omega) (by omega) (by omega) rfl rfl
  show bits .or .u32 (bits .or .u32 (bits .or .u32 ((p3 : Int) * 16777216) ((p2 : Int) * 65536)) ((p1 : Int) * 256)) (p0 : Int) = _
  rw [f1, f2, f3]

theorem awake06 (w : World) : Calls Try.prog 32 #[] w (RetB (.bool true) w) := by
  have h1 : sb 83 = 237 := by decide +kernel
  have h2 : bk 237 = 83 := by decide +kernel
  have C1 : ∀ w, Calls Try.prog 29 #[.int .u8 83] w (RetB (.int .u8 237) w) := fun w => by simpa [h1] using sub_calls 83 rfl (by omega) w
  have C2 : ∀ w, Calls Try.prog 31 #[.int .u8 237] w (RetB (.int .u8 83) w) := fun w => by simpa [h2] using back_calls 237 rfl (by omega) w
  go_enter Try.func32, Try.ntmps32
  go_wp2_with (first | (go_at_call 29; refine (C1 _).mono ?_; rintro e w1 ⟨rfl, hb1⟩) | (go_at_call 31; refine (C2 _).mono ?_; rintro e w2 ⟨rfl, hb2⟩))
  go_ret
  exact RetB.mk rfl (hb1.trans (hb2.mono hb1.size))
end Go.Proofs.Ytfinekmegiengaa
