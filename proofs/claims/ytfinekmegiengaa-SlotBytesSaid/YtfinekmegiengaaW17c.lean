/- The walk of layer 17: a slot made. -/
import Derived.Test.YtfinekmegiengaaMemS
import Derived.Test.YtfinekmegiengaaL10
namespace Go.Proofs.Ytfinekmegiengaa
open Go.RowKit Nep
set_option maxRecDepth 100000
set_option linter.unusedVariables false
set_option linter.unusedSimpArgs false
set_option maxHeartbeats 1000000

/-- it returns a slot with these bytes, and OK -/
def RetSl (u : Bool) (s : Int) (e c : Nat) (ys : List Nat) (w : World) (x : Ending) (w' : World) : Prop := ∃ av m k, x = .returned (.tuple #[slotV u s e c (.slice av m k), .int .i64 0]) ∧ w'.ownsRow w.heap.size 5 1 (.slice av m k) ys.length (bv ys) ∧ Below w.heap.size w w'
theorem own_isSlice {base e s : Nat} {w : World} {v : Value} {n : Nat} {xs : List Value} (h : w.ownsRow base e s v n xs) : ∃ av m k, v = .slice av m k := by
  rcases h.2 with ⟨rfl, _⟩ | ⟨g, cap, cur, rfl, _⟩
  · exact ⟨_, _, _, rfl⟩
  · exact ⟨_, _, _, rfl⟩
theorem own_setRow17 {base e s : Nat} {w : World} {v : Value} {n : Nat} {xs : List Value} (h : w.ownsRow base e s v n xs) {g : Nat} (hg : g < base) (c : Array Value) : (w.setRow g c).ownsRow base e s v n xs := by
  refine ⟨h.1, ?_⟩
  rcases h.2 with hn | ⟨g', cap, cur, rfl, hbg, hgg, r⟩
  · exact .inl hn
  · exact .inr ⟨g', cap, cur, rfl, hbg, (heap_setRow_other w g g' c (show g' ≠ g by omega)).trans hgg, r⟩
theorem make_calls (v1 v4 : Value) (kek keys : List Nat) (s : Int) (k n ct b : Int) (e c : Nat) (w : World) (hs1 : 1 ≤ s) (hs2 : s ≤ 65535) (hkb : Bytes kek) (h32 : kek.length = 32) (hr1 : RdB w.heap.size w v1 kek) (hb : Bytes keys) (h96 : keys.length = 96) (hr4 : RdB w.heap.size w v4 keys) :
    Calls Try.prog 75 #[v1, .int .i64 s, headV k n ct b e c, v4] w (RetSl true s e c (wrapT kek keys 12) w) := by
  obtain ⟨v3, hv3⟩ : ∃ v3, v3 = headV k n ct b e c := ⟨_, rfl⟩
  rw [← hv3]
  have HV3 := Lib.hid hv3
  obtain ⟨y, hy⟩ : ∃ y, y = wrapT kek keys 12 := ⟨_, rfl⟩
  have C : RowKit.Hid (∀ w, RdB w.heap.size w v1 kek → RdB w.heap.size w v4 keys → Calls Try.prog 68 #[v1, v4] w (RetSE y w)) := Lib.hid (fun w a d => hy ▸ wrap_calls v1 v4 kek keys 12 w hkb a h32 hb d (by omega) (by omega) (by omega))
  rw [← hy]
  have f1 : decide (s < 1) = false := by simp; omega
  have f2 : decide ((65535 : Int) < s) = false := by simp; omega
  have f3 : ((keys.length : Int) != 96) = false := by simp; omega
  clear hv3 hy h32 h96
  go_enter Try.func75, Try.ntmps75
  go_wp2_with (first
    | (apply wpList_boxR v3; rfl; rfl; rfl; intro g1 w1 hg1 hg1' hr hb1; rw [HV3.out] at hr; have ha1 := hr1.next hb1; have hd1 := hr4.next hb1)
    | (apply wpList_allocR (.agg #[.bool false, .int .i64 0, .int .u64 0, .int .u64 0, .slice none 0 0]) 5; kernel_rfl; rfl; rfl; intro g2 w2 hg2 hg2' hr2 hb2; have ha2 := ha1.next hb2; have hd2 := hd1.next hb2; have hrb := hr.next hb2)
    | (refine wpList_lenB hd2 rfl rfl rfl ?_)
    | (go_at_call 68; refine (C.out _ ha2 hd2).mono ?_; rintro x w3 ⟨vy, rfl, hy3, hb3⟩; obtain ⟨av, m, kk, hvy⟩ := own_isSlice hy3; subst hvy; have hr23 := hr2.next hb3; have hr33 := hrb.next hb3; obtain ⟨a0, a1, a2, a3, a4, a5⟩ := row6 hr33)
    | (refine wpList_buildP [(0, .bool true), (1, .int .i64 s), (2, .int .u64 (e : Int)), (3, .int .u64 (c : Int)), (4, .slice av m kk)] #[.bool true, .int .i64 s, .int .u64 (e : Int), .int .u64 (c : Int), .slice av m kk] (by kernel_rfl) rfl rfl rfl ?_)
    | (apply wpList_storeRow hr23 #[.bool true, .int .i64 s, .int .u64 (e : Int), .int .u64 (c : Int), .slice av m kk]; rfl; rfl; rfl; rfl; kernel_rfl; rfl; (first | kernel_rfl | simp [Value.oneCell'] | decide); intro w4 hw4 hr4 hs4; have HW4 := Lib.hid hw4; clear hw4))
  refine ret_rowT rfl hr4 Try.underlying55 (n := 5) (by kernel_rfl) rfl rfl rfl ?_
  have s1 := hb1.size
  have s2 := hb2.size
  refine ⟨av, m, kk, rfl, ?_, ?_⟩
  · rw [HW4.out]
    exact own_base (own_setRow17 hy3 hg2' _) (by omega)
  · rw [HW4.out]
    exact hb1.trans ((hb2.mono s1).trans ((hb3.mono (by omega)).trans (below_row _ (Nat.le_trans s1 hg2))))
end Go.Proofs.Ytfinekmegiengaa
