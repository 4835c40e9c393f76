/- The walks of layer 17: a slot's keys; two slots, the same; a slot made wrongly; the reference's Make. -/
import Derived.Test.YtfinekmegiengaaW17d
import Derived.Test.YtfinekmegiengaaW17c
import Derived.Test.YtfinekmegiengaaW10e
namespace Go.Proofs.Ytfinekmegiengaa
open Go.RowKit Nep
set_option maxRecDepth 100000
set_option linter.unusedVariables false
set_option linter.unusedSimpArgs false
set_option maxHeartbeats 1000000

theorem rsame_true (u : Bool) (s : Int) (e c : Nat) (va vb : Value) (l : List Nat) (w : World) (hn : l.length ≤ 140737488351232) (ha : RdB w.heap.size w va l) (hb : RdB w.heap.size w vb l) :
    Calls Try.prog 60 #[slotV u s e c va, slotV u s e c vb] w (RetB (.bool true) w) := by
  obtain ⟨v1, hv1⟩ : ∃ v1, v1 = slotV u s e c va := ⟨_, rfl⟩
  obtain ⟨v2, hv2⟩ : ∃ v2, v2 = slotV u s e c vb := ⟨_, rfl⟩
  rw [← hv1, ← hv2]
  have HV1 := Lib.hid hv1
  have HV2 := Lib.hid hv2
  have C := same_true l hn
  have f1 : (s == s) = true := by simp
  have f2 : ((e : Int) == (e : Int)) = true := by simp
  have f3 : ((c : Int) == (c : Int)) = true := by simp
  have f0 : (u == u) = true := by simp
  clear hv1 hv2
  cases u <;>
  · go_enter Try.func60, Try.ntmps60
    go_wp2_with (first
      | (apply wpList_boxR v1; rfl; rfl; rfl; intro g1 w1 hg1 hg1' hr1 hb1; rw [HV1.out] at hr1; have ha1 := ha.next hb1; have hc1 := hb.next hb1)
      | (apply wpList_boxR v2; rfl; rfl; rfl; intro g2 w2 hg2 hg2' hr2 hb2; rw [HV2.out] at hr2; have hr12 := hr1.next hb2; have ha2 := ha1.next hb2; have hc2 := hc1.next hb2; obtain ⟨a0, a1, a2, a3, a4⟩ := row5 hr12; obtain ⟨b0, b1, b2, b3, b4⟩ := row5 hr2)
      | (go_at_call 43; (with_reducible refine (C.out _ _ _ ha2 hc2).mono ?_); rintro x w3 ⟨rfl, hb3⟩))
    go_ret
    exact RetB.mk rfl (hb1.trans ((hb2.mono hb1.size).trans (hb3.mono (Nat.le_trans hb1.size hb2.size))))

theorem keys_bad (v1 : Value) (kek : List Nat) (u : Bool) (s : Int) (e c : Nat) (av : Option Addr) (m k : Nat) (l : List Nat) (w : World) (hr1 : RdB w.heap.size w v1 kek) (hr2 : RdB w.heap.size w (.slice av m k) l) (h : slotOk u s e c l.length = false ∨ kek.length ≠ 32) :
    Calls Try.prog 76 #[v1, slotV u s e c (.slice av m k)] w (RetE 2 w) := by
  obtain ⟨v2, hv2⟩ : ∃ v2, v2 = slotV u s e c (.slice av m k) := ⟨_, rfl⟩
  have HV2 := Lib.hid hv2
  obtain ⟨r, hr⟩ : ∃ r, r = slotOk u s e c l.length := ⟨_, rfl⟩
  have C : RowKit.Hid (∀ w, RdB w.heap.size w (.slice av m k) l → Calls Try.prog 64 #[.agg #[.bool u, .int .i64 s, .int .u64 (e : Int), .int .u64 (c : Int), .slice av m k]] w (RetB (.bool r) w)) := Lib.hid (fun w h => hr ▸ sright_calls u s e c (.slice av m k) l w h)
  rw [← hv2]
  rw [← hr] at h
  clear hv2 hr
  cases r with
  | false =>
    clear h
    go_enter Try.func76, Try.ntmps76
    go_wp2_with (first
      | (apply wpList_boxR v2; rfl; rfl; rfl; intro g1 w1 hg1 hg1' hr3 hb1; rw [HV2.out] at hr3; have ha1 := hr2.next hb1; obtain ⟨a0, a1, a2, a3, a4⟩ := row5 hr3)
      | (go_at_call 64; (with_reducible refine (C.out _ ha1).mono ?_); rintro x w2 ⟨rfl, hb2⟩))
    go_ret2
    exact ⟨rfl, hb1.trans (hb2.mono hb1.size)⟩
  | true =>
    have f1 : ((kek.length : Int) != 32) = true := by
      have h32 : kek.length ≠ 32 := h.resolve_left (by simp)
      simp; omega
    clear h
    go_enter Try.func76, Try.ntmps76
    go_wp2_with (first
      | (apply wpList_boxR v2; rfl; rfl; rfl; intro g1 w1 hg1 hg1' hr3 hb1; rw [HV2.out] at hr3; have ha1 := hr2.next hb1; have hk1 := hr1.next hb1; obtain ⟨a0, a1, a2, a3, a4⟩ := row5 hr3)
      | (go_at_call 64; (with_reducible refine (C.out _ ha1).mono ?_); rintro x w2 ⟨rfl, hb2⟩; have hk2 := hk1.next hb2)
      | (refine wpList_lenB hk2 rfl rfl rfl ?_; clear hk2))
    go_ret2
    exact ⟨rfl, hb1.trans (hb2.mono hb1.size)⟩

theorem keys_none (v1 : Value) (kek : List Nat) (s : Int) (e c : Nat) (av : Option Addr) (m k : Nat) (l : List Nat) (w : World) (hr1 : RdB w.heap.size w v1 kek) (hr2 : RdB w.heap.size w (.slice av m k) l) (h : slotOk false s e c l.length = true) (h32 : kek.length = 32) :
    Calls Try.prog 76 #[v1, slotV false s e c (.slice av m k)] w (RetE 12 w) := by
  obtain ⟨v2, hv2⟩ : ∃ v2, v2 = slotV false s e c (.slice av m k) := ⟨_, rfl⟩
  have HV2 := Lib.hid hv2
  have C : RowKit.Hid (∀ w, RdB w.heap.size w (.slice av m k) l → Calls Try.prog 64 #[.agg #[.bool false, .int .i64 s, .int .u64 (e : Int), .int .u64 (c : Int), .slice av m k]] w (RetB (.bool true) w)) := Lib.hid (fun w hh => by have h2 := sright_calls false s e c (.slice av m k) l w hh; rw [h] at h2; exact h2)
  rw [← hv2]
  have f1 : ((kek.length : Int) != 32) = false := by simp; omega
  clear hv2 h h32
  go_enter Try.func76, Try.ntmps76
  go_wp2_with (first
    | (apply wpList_boxR v2; rfl; rfl; rfl; intro g1 w1 hg1 hg1' hr3 hb1; rw [HV2.out] at hr3; have ha1 := hr2.next hb1; have hk1 := hr1.next hb1; obtain ⟨a0, a1, a2, a3, a4⟩ := row5 hr3)
    | (go_at_call 64; (with_reducible refine (C.out _ ha1).mono ?_); rintro x w2 ⟨rfl, hb2⟩; have hk2 := hk1.next hb2; obtain ⟨b0, b1, b2, b3, b4⟩ := row5 (hr3.next hb2))
    | (refine wpList_lenB hk2 rfl rfl rfl ?_; clear hk2))
  go_ret2
  exact ⟨rfl, hb1.trans (hb2.mono hb1.size)⟩

theorem keys_get (v1 : Value) (kek : List Nat) (s : Int) (e c : Nat) (av : Option Addr) (m k : Nat) (l : List Nat) (w : World) (hkb : Bytes kek) (hr1 : RdB w.heap.size w v1 kek) (hlb : Bytes l) (hr2 : RdB w.heap.size w (.slice av m k) l) (h : slotOk true s e c l.length = true) (h32 : kek.length = 32)
    (F : World → Ending → World → Prop) (v : List Nat) (cd : Int) (hF : F = fun w => if cd = 0 then RetSE v w else RetE cd w) (hv : ∀ w, RdB w.heap.size w v1 kek → RdB w.heap.size w (.slice av m k) l → Calls Try.prog 71 #[v1, .slice av m k] w (F w)) :
    Calls Try.prog 76 #[v1, slotV true s e c (.slice av m k)] w (F w) := by
  obtain ⟨v2, hv2⟩ : ∃ v2, v2 = slotV true s e c (.slice av m k) := ⟨_, rfl⟩
  have HV2 := Lib.hid hv2
  have C : RowKit.Hid (∀ w, RdB w.heap.size w (.slice av m k) l → Calls Try.prog 64 #[.agg #[.bool true, .int .i64 s, .int .u64 (e : Int), .int .u64 (c : Int), .slice av m k]] w (RetB (.bool true) w)) := Lib.hid (fun w hh => by have h2 := sright_calls true s e c (.slice av m k) l w hh; rw [h] at h2; exact h2)
  rw [← hv2]
  have f1 : ((kek.length : Int) != 32) = false := by simp; omega
  subst hF
  by_cases hc : cd = 0
  · simp only [if_pos hc] at hv ⊢
    have CU := Lib.hid hv
    clear hv2 h h32 hc hv
    go_enter Try.func76, Try.ntmps76
    go_wp2_with (first
      | (apply wpList_boxR v2; rfl; rfl; rfl; intro g1 w1 hg1 hg1' hr3 hb1; rw [HV2.out] at hr3; have ha1 := hr2.next hb1; have hk1 := hr1.next hb1; obtain ⟨a0, a1, a2, a3, a4⟩ := row5 hr3)
      | (go_at_call 64; (with_reducible refine (C.out _ ha1).mono ?_); rintro x w2 ⟨rfl, hb2⟩; have ha2 := ha1.next hb2; have hk2 := hk1.next hb2; have hk20 := hk2; obtain ⟨b0, b1, b2, b3, b4⟩ := row5 (hr3.next hb2))
      | (refine wpList_lenB hk2 rfl rfl rfl ?_; clear hk2)
      | (go_at_call 71; (with_reducible refine (CU.out _ hk20 ha2).mono ?_); rintro x w3 ⟨vr, rfl, ho3, hb3⟩))
    go_ret2
    exact ⟨_, rfl, own_base ho3 (Nat.le_trans hb1.size hb2.size), hb1.trans ((hb2.mono hb1.size).trans (hb3.mono (Nat.le_trans hb1.size hb2.size)))⟩
  · simp only [if_neg hc] at hv ⊢
    have CU := Lib.hid hv
    clear hv2 h h32 hc hv
    go_enter Try.func76, Try.ntmps76
    go_wp2_with (first
      | (apply wpList_boxR v2; rfl; rfl; rfl; intro g1 w1 hg1 hg1' hr3 hb1; rw [HV2.out] at hr3; have ha1 := hr2.next hb1; have hk1 := hr1.next hb1; obtain ⟨a0, a1, a2, a3, a4⟩ := row5 hr3)
      | (go_at_call 64; (with_reducible refine (C.out _ ha1).mono ?_); rintro x w2 ⟨rfl, hb2⟩; have ha2 := ha1.next hb2; have hk2 := hk1.next hb2; have hk20 := hk2; obtain ⟨b0, b1, b2, b3, b4⟩ := row5 (hr3.next hb2))
      | (refine wpList_lenB hk2 rfl rfl rfl ?_; clear hk2)
      | (go_at_call 71; (with_reducible refine (CU.out _ hk20 ha2).mono ?_); rintro x w3 ⟨rfl, hb3⟩))
    go_ret2
    exact ⟨rfl, hb1.trans ((hb2.mono hb1.size).trans (hb3.mono (Nat.le_trans hb1.size hb2.size)))⟩
end Go.Proofs.Ytfinekmegiengaa
