/- The walk of layer 17: the reference's Make. -/
import Derived.Test.YtfinekmegiengaaW17f
namespace Go.Proofs.Ytfinekmegiengaa
open Go.RowKit Nep
set_option maxRecDepth 100000
set_option linter.unusedVariables false
set_option linter.unusedSimpArgs false
set_option maxHeartbeats 2000000

/-- five cells of a block, stored one behind the other -/
def set5 (W : World) (g : Nat) (v0 v1 v2 v3 v4 : Value) : World := ((((W.setCell ⟨g, 0, none⟩ v0).setCell ⟨g, 1, none⟩ v1).setCell ⟨g, 2, none⟩ v2).setCell ⟨g, 3, none⟩ v3).setCell ⟨g, 4, none⟩ v4
theorem cell_set5 {W : World} {g k i : Nat} {v0 v1 v2 v3 v4 x : Value} (h : W.cell? ⟨k, i, none⟩ = some x) (hn : k ≠ g) : (((((W.setCell ⟨g, 0, none⟩ v0).setCell ⟨g, 1, none⟩ v1).setCell ⟨g, 2, none⟩ v2).setCell ⟨g, 3, none⟩ v3).setCell ⟨g, 4, none⟩ v4).cell? ⟨k, i, none⟩ = some x := by
  have e : ∀ (W : World) (j : Nat) (v : Value), (W.setCell ⟨g, j, none⟩ v).cell? ⟨k, i, none⟩ = W.cell? ⟨k, i, none⟩ := fun W j v => by
    have h2 := heap_setCell_other W ⟨g, j, none⟩ k v hn
    simp only [World.cell?, h2]
  rw [e, e, e, e, e]
  exact h
theorem row_set5 {W : World} {g : Nat} {t : TypeId} {a0 a1 a2 a3 a4 v0 v1 v2 v3 v4 : Value} (h : Row W g t #[a0, a1, a2, a3, a4]) : Row (((((W.setCell ⟨g, 0, none⟩ v0).setCell ⟨g, 1, none⟩ v1).setCell ⟨g, 2, none⟩ v2).setCell ⟨g, 3, none⟩ v3).setCell ⟨g, 4, none⟩ v4) g t #[v0, v1, v2, v3, v4] :=
  ((((h.set 0 v0).set 1 v1).set 2 v2).set 3 v3).set 4 v4
theorem own_set5 {base e s : Nat} {w : World} {v : Value} {n : Nat} {xs : List Value} (h : w.ownsRow base e s v n xs) {g : Nat} {v0 v1 v2 v3 v4 : Value} (hg : g < base) : (((((w.setCell ⟨g, 0, none⟩ v0).setCell ⟨g, 1, none⟩ v1).setCell ⟨g, 2, none⟩ v2).setCell ⟨g, 3, none⟩ v3).setCell ⟨g, 4, none⟩ v4).ownsRow base e s v n xs :=
  own_setCell (own_setCell (own_setCell (own_setCell (own_setCell h hg _) hg _) hg _) hg _) hg _
/-- it returns a slot with these bytes -/
def RetSv (u : Bool) (s : Int) (e c : Nat) (ys : List Nat) (w : World) (x : Ending) (w' : World) : Prop := ∃ av k, x = .returned (slotV u s e c (.slice av ys.length k)) ∧ RdB w'.heap.size w' (.slice av ys.length k) ys ∧ Below w.heap.size w w'
theorem own_isSlice' {base : Nat} {w : World} {v : Value} {ys : List Nat} (h : w.ownsRow base 5 1 v ys.length (bv ys)) : ∃ av k, v = .slice av ys.length k := by
  obtain ⟨_, a, c, hv, _⟩ := RdB.of_own h
  exact ⟨a, c, hv⟩
theorem rmake_calls (v1 v4 v5 : Value) (kek keys t : List Nat) (s : Int) (k n ct b : Int) (e c : Nat) (w : World) (hkb : Bytes kek) (h32 : kek.length = 32) (hr1 : RdB w.heap.size w v1 kek) (hb : Bytes keys) (h96 : keys.length = 96) (hr4 : RdB w.heap.size w v4 keys) (hr5 : RdB w.heap.size w v5 t) (ht : t = sboxL) :
    Calls Try.prog 77 #[v1, .int .i64 s, headV k n ct b e c, v4, v5] w (RetSv true s e c (wrapT kek keys 12) w) := by
  obtain ⟨v3, hv3⟩ : ∃ v3, v3 = headV k n ct b e c := ⟨_, rfl⟩
  rw [← hv3]
  have HV3 := Lib.hid hv3
  obtain ⟨y, hy⟩ : ∃ y, y = wrapT kek keys 12 := ⟨_, rfl⟩
  have C : RowKit.Hid (∀ w, RdB w.heap.size w v1 kek → RdB w.heap.size w v4 keys → RdB w.heap.size w v5 t → Calls Try.prog 70 #[v1, v4, v5] w (RetS y w)) := Lib.hid (fun w a d f => hy ▸ rwrap_calls v1 v4 v5 kek keys t 12 w hkb a h32 hb d f ht (by omega) (by omega) (by omega))
  rw [← hy]
  clear hv3 hy h32 h96 ht
  go_enter Try.func77, Try.ntmps77
  go_wp2_with (first
    | (apply wpList_boxR v3; rfl; rfl; rfl; intro g1 w1 hg1 hg1' hr hb1; rw [HV3.out] at hr; have ha1 := hr1.next hb1; have hd1 := hr4.next hb1; have ht1 := hr5.next hb1)
    | (apply wpList_allocR (.agg #[.bool false, .int .i64 0, .int .u64 0, .int .u64 0, .slice none 0 0]) 5; kernel_rfl; rfl; rfl; intro g2 w2 hg2 hg2' hr2 hb2; have ha2 := ha1.next hb2; have hd2 := hd1.next hb2; have ht2 := ht1.next hb2; have hrb := hr.next hb2))
  have hne : g1 ≠ g2 := by omega
  have hw2 : w.heap.size ≤ g2 := Nat.le_trans hb1.size hg2
  have hB2 : Below w.heap.size w w2.drew := (hb1.trans (hb2.mono hb1.size)).drew
  have hws : w.heap.size ≤ w2.heap.size := hB2.size
  obtain ⟨a0, a1, a2, a3, a4, a5⟩ := row6 (Row.drewn hrb)
  go_region_held3 (fun w' => Below w.heap.size w w' ∧ w'.cell? ⟨g1, 4, none⟩ = some (.int .u64 (e : Int)) ∧ w'.cell? ⟨g1, 5, none⟩ = some (.int .u64 (c : Int)))
    (first | (with_reducible exact ⟨hB2, a4, a5⟩) | (with_reducible exact hS5) | (with_reducible exact ⟨below5 hS5.1 hw2, cell_set5 hS5.2.1 hne, cell_set5 hS5.2.2 hne⟩))
    (first
      | (go_at_call 70; (with_reducible refine (C.out _ (ha2.next (Below.refl _ _).drew) (hd2.next (Below.refl _ _).drew) (ht2.next (Below.refl _ _).drew)).mono ?_); rintro x w5 ⟨vy, rfl, ho5, hb5⟩; obtain ⟨av, kk, hvy⟩ := own_isSlice' ho5; subst hvy; have hrow := (Row.drewn hr2).next hb5; obtain ⟨b0, b1, b2, b3, b4⟩ := row5 hrow; have q0 := hrow.free 0; have q1 := hrow.free 1; have q2 := hrow.free 2; have q3 := hrow.free 3; have q4 := hrow.free 4; obtain ⟨d0, d1, d2, d3, d4, d5⟩ := row6 ((Row.drewn hrb).next hb5); have hS5 : Below w.heap.size w w5 ∧ w5.cell? ⟨g1, 4, none⟩ = some (.int .u64 (e : Int)) ∧ w5.cell? ⟨g1, 5, none⟩ = some (.int .u64 (c : Int)) := ⟨hB2.trans (hb5.mono hws), d4, d5⟩))
  have hR := row_set5 (v0 := .bool true) (v1 := .int .i64 s) (v2 := .int .u64 (e : Int)) (v3 := .int .u64 (c : Int)) (v4 := .slice av y.length kk) hrow
  have hBW := below5 (v0 := .bool true) (v1 := .int .i64 s) (v2 := .int .u64 (e : Int)) (v3 := .int .u64 (c : Int)) (v4 := .slice av y.length kk) hS5.1 hw2
  have ho := own_set5 (v0 := .bool true) (v1 := .int .i64 s) (v2 := .int .u64 (e : Int)) (v3 := .int .u64 (c : Int)) (v4 := .slice av y.length kk) ho5 hg2'
  clear hS5 hrow b0 b1 b2 b3 b4 q0 q1 q2 q3 q4 d0 d1 d2 d3 d4 d5 a0 a1 a2 a3 a4 a5 ho5
  generalize (((((w5.setCell ⟨g2, 0, none⟩ (.bool true)).setCell ⟨g2, 1, none⟩ (.int .i64 s)).setCell ⟨g2, 2, none⟩ (.int .u64 (e : Int))).setCell ⟨g2, 3, none⟩ (.int .u64 (c : Int))).setCell ⟨g2, 4, none⟩ (.slice av y.length kk)) = W at *
  go_wp2_with fail
  refine ret_row rfl g2 _ _ (0, 0) _ rfl hR rfl Try.underlying60 rfl (by kernel_rfl) ?_
  exact ⟨av, kk, rfl, RdB.of_own ho, hBW⟩
end Go.Proofs.Ytfinekmegiengaa
