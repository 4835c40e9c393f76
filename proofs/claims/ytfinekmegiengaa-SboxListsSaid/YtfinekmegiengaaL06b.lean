/- The walk of the law SboxLists. -/
import Derived.Test.YtfinekmegiengaaW06e
import Derived.Deep.RegionHeld3
namespace Go.Proofs.Ytfinekmegiengaa
open Go.RowKit Nep
set_option maxRecDepth 100000

theorem RdB.at {B : Nat} {w : World} {v : Value} {l : List Nat} (h : RdB B w v l) {k : Nat} (hk : k < l.length) :
    ∃ ad c, v = .slice (some ad) l.length c ∧ ad.block < B ∧ (ad.add k).block = ad.block ∧ w.cell? (ad.add k) = some (.int .u8 ((l.getD k 0 : Nat) : Int)) := by
  obtain ⟨ad, c, hv, _, hB, hr⟩ := RdS.addr h (by intro h0; have := bv_length l; rw [h0] at this; simp at this; omega)
  exact ⟨ad, c, hv, hB, by unfold Addr.add; split <;> rfl, hr k _ (bv_get l k hk)⟩

theorem below_undrew {B : Nat} {w w' : World} (h : Below B w.drew w') : Below B w w' := ⟨h.os, h.tape, h.output, h.size, h.block⟩

/-- a cell below the old heap's end is as it was -/
theorem cell_next {w w' : World} {p : Addr} {v : Value} (h : w.cell? p = some v) (hb : Below w.heap.size w w') : w'.cell? p = some v :=
  (hb.cell (World.block_lt_of_cell? w p h)).trans h

theorem sboxLists_walk (v : Value) (l : List Nat) (w : World) (hl : Bytes l) (hr : RdB w.heap.size w v l) (hn : l.length ≤ 140737488351232) :
    Calls Try.prog 5 #[v] w (RetB (.bool true) w) := by
  have B := Below.refl w.heap.size w
  by_cases hbig : 3000 < l.length
  · go_enter Try.func5, Try.ntmps5
    go_wp2_with (first | (refine wpList_lenB hr rfl rfl rfl ?_) | (go_at_call 32; refine (awake06 _).mono ?_; rintro e w' ⟨rfl, hb⟩; replace B := B.trans (hb.mono B.size)))
    go_ret
    exact RetB.mk rfl B
  · obtain ⟨xs, hxs⟩ : ∃ xs, xs = l.map sb := ⟨_, rfl⟩
    obtain ⟨ys, hys⟩ : ∃ ys, ys = l.map bk := ⟨_, rfl⟩
    have C1 : ∀ w, RdB w.heap.size w v l → Calls Try.prog 34 #[v] w (RetS xs w) := fun w h => hxs ▸ subs_calls v l w hl h hn
    have C2 : ∀ w, RdB w.heap.size w v l → Calls Try.prog 35 #[v] w (RetS ys w) := fun w h => hys ▸ backs_calls v l w hl h hn
    have hxl : xs.length = l.length := by rw [hxs]; simp
    have hyl : ys.length = l.length := by rw [hys]; simp
    have HX := Lib.hid hxs
    have HY := Lib.hid hys
    have HC1 := Lib.hid C1
    have HC2 := Lib.hid C2
    have HXL := Lib.hid hxl
    have HYL := Lib.hid hyl
    have hng : ((xs.length : Int) != (l.length : Int)) = false := by rw [hxl]; simp
    have hng2 : ((ys.length : Int) != (l.length : Int)) = false := by rw [hyl]; simp
    clear hxs hys C1 C2 hxl hyl
    go_enter Try.func5, Try.ntmps5
    go_wp2_with (first
      | (first | (refine wpList_lenB hr rfl rfl rfl ?_) | (refine wpList_lenB hrx rfl rfl rfl ?_) | (refine wpList_lenB hry rfl rfl rfl ?_))
      | (go_at_call 34; refine (HC1.out _ hr).mono ?_; rintro e w1 ⟨vx, rfl, hox, hb1⟩; replace hr := hr.next hb1)
      | (go_at_call 35; refine (HC2.out _ hr).mono ?_; rintro e w2 ⟨vy, rfl, hoy, hb2⟩; replace hr := hr.next hb2; have hrx := (RdB.of_own hox).next hb2; have hry := RdB.of_own hoy; clear hox hoy))
    have B2 := hb1.trans (hb2.mono hb1.size)
    clear B
    go_loopw [5] (fun i wr => ∃ k : Nat, k ≤ l.length ∧ i = .int .i64 k ∧ Below w2.heap.size w2 wr) (fun i _ => l.length - (intOf i).toNat)
    case atStart => exact ⟨0, by omega, rfl, Below.refl _ _⟩
    case round =>
      obtain ⟨k, hk, rfl, hbk⟩ := hrel
      have hrk := hr.mono hbk
      by_cases hlt : k < l.length
      · have hrxk := hrx.mono hbk
        have hryk := hry.mono hbk
        clear hr hrx hry
        obtain ⟨ad, c, rfl, _, _, c1⟩ := hrk.at hlt
        obtain ⟨ax, cx, rfl, _, _, c2⟩ := hrxk.at (k := k) (by have := HXL.out; omega)
        obtain ⟨ay, cy, rfl, _, _, c3⟩ := hryk.at (k := k) (by have := HYL.out; omega)
        obtain ⟨x, hx⟩ : ∃ x, x = l.getD k 0 := ⟨_, rfl⟩
        have e2 : xs.getD k 0 = sb x := by rw [HX.out, hx]; simp [List.getElem?_eq_getElem hlt]
        have e3 : ys.getD k 0 = bk x := by rw [HY.out, hx]; simp [List.getElem?_eq_getElem hlt]
        have hx8 : x < 256 := hx ▸ hl.get k
        have e4 := bk_sb x hx8
        rw [← hx] at c1
        rw [e2] at c2
        rw [e3] at c3
        have hx1 : k < xs.length := by have := HXL.out; omega
        have hy1 : k < ys.length := by have := HYL.out; omega
        have D1 : ∀ w, Calls Try.prog 29 #[.int .u8 x] w (RetB (.int .u8 (sb x)) w) := fun w => sub_calls x rfl hx8 w
        have D2 : ∀ w, Calls Try.prog 31 #[.int .u8 x] w (RetB (.int .u8 (bk x)) w) := fun w => back_calls x rfl hx8 w
        have D3 : ∀ w, Calls Try.prog 31 #[.int .u8 (sb x)] w (RetB (.int .u8 x) w) := fun w => by
          have h := back_calls (sb x) rfl (sb_lt x) w
          rwa [e4] at h
        have HD1 := Lib.hid D1
        have HD2 := Lib.hid D2
        have HD3 := Lib.hid D3
        clear hx e2 e3 e4 D1 D2 D3 hng hng2
        go_wp2_with (first | (refine wpList_lenB hrk rfl rfl rfl ?_))
        clear hrk hrxk hryk
        go_region_held3 (fun w' => w'.cell? (ad.add k) = some (.int .u8 x) ∧ w'.cell? (ax.add k) = some (.int .u8 (sb x)) ∧ w'.cell? (ay.add k) = some (.int .u8 (bk x))) (first | exact ⟨c1, c2, c3⟩ | exact ⟨d1, d2, d3⟩ | exact ⟨f1, f2, f3⟩ | exact ⟨i1, i2, i3⟩)
          (first | (go_at_call 29; refine (HD1.out _).mono ?_; rintro e w3 ⟨rfl, hb3⟩; have d1 := cell_next (by exact c1) hb3; have d2 := cell_next (by exact c2) hb3; have d3 := cell_next (by exact c3) hb3) | (go_at_call 31; first | ((with_reducible refine (HD2.out _).mono ?_); rintro e w4 ⟨rfl, hb4⟩; have f1 := cell_next (by exact d1) hb4; have f2 := cell_next (by exact d2) hb4; have f3 := cell_next (by exact d3) hb4) | ((with_reducible refine (HD3.out _).mono ?_); rintro e w5 ⟨rfl, hb5⟩; have i1 := cell_next (by exact f1) hb5; have i2 := cell_next (by exact f2) hb5; have i3 := cell_next (by exact f3) hb5)))
        clear c1 c2 c3 d1 d2 d3 f1 f2 f3 i1 i2 i3
        have hs0 := hbk.size
        have b3 := below_undrew hb3
        have hs3 := b3.size
        have hs4 := hb4.size
        have hs5 := hb5.size
        have b5 := hbk.trans ((b3.mono hs0).trans ((hb4.mono (by omega)).trans (hb5.mono (by omega))))
        clear hb3 hb4 hb5 b3 hs0 hs3 hs4 hs5
        go_wp2
        go_roundw
        case rel => exact ⟨k + 1, by omega, by go_num, b5⟩
        case measure => simp [intOf]; omega
      · have B3 := B2.trans (hbk.mono B2.size)
        clear hr hrx hry
        go_wp2_with (first | (refine wpList_lenB hrk rfl rfl rfl ?_) | (go_at_call 32; refine (awake06 _).mono ?_; rintro e w' ⟨rfl, hb⟩; replace B3 := B3.trans (hb.mono B3.size)))
        go_ret
        exact RetB.mk rfl B3
end Go.Proofs.Ytfinekmegiengaa
