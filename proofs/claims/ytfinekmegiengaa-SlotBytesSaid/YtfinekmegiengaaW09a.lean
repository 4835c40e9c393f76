/- The walks of layer 9: a cipher of two keys; a sector's masks; a sector, turned. -/
import Derived.Test.YtfinekmegiengaaW08a
import Derived.Test.YtfinekmegiengaaW08b
import Derived.Test.YtfinekmegiengaaPlnX
namespace Go.Proofs.Ytfinekmegiengaa
open Go.RowKit Nep
set_option maxRecDepth 100000
set_option linter.unusedVariables false
set_option linter.unusedSimpArgs false
set_option maxHeartbeats 1000000

/-- 'make([]byte, 0, n)' -/
theorem wpList_makeCap {w : World} {ops : Array Oper} {rest : List Oper} {o : Oper} {a : Act} {Q : Exit → Act → World → Prop} {x y : Operand} {k j : IntKind} {N : Int} {n : Nat} (hg : Region.wanted o (yielded ops a.tmps) = true) (ho : o.op = .makeSlice 28 y x)
    (hy : a.eval y = .int j 0) (hx : a.eval x = .int k N) (hN : N = (n : Int)) (hn : n ≤ 140737488351232)
    (hK : ∀ v w', w'.ownsRow w.heap.size 5 1 v 0 (bv []) → Below w.heap.size w w' → wpList Try.prog ops Q rest (a.put o.dst v) w') : wpList Try.prog ops Q (o :: rest) a w := by
  obtain ⟨i, hi, hz, hs, hb⟩ := info_parts info_u8
  subst hN
  refine wpList_go hg fun K hK' => ?_
  have hrun := run_make (P := Try.prog) w 28 5 i _ Try.underlying28 hi hz j k 0 (n : Int) (by omega) (by omega) (by rw [hb]; omega) (by omega)
  unfold Oper.wp
  simp only [execOp, ho, hx, hy, Sem.run_bind, hrun, Result.andThen_ok, Sem.run_pure]
  refine hK' _ _ (hK _ _ ?_ ((Below.refl _ _).alloc (Nat.le_refl _) _))
  have h := World.ownsRow_made (base := w.heap.size) (e := 5) (size := 1) w (madeCells (Value.int .u8 0).cells ((n : Int).toNat * i.size)) n (Nat.le_refl _) (by unfold maxLen; omega) (by rw [hs, Int.toNat_natCast]; simp [madeCells])
  simpa [bv] using h

/-- p is a cipher's pointer -/
def CipherAt (B : Nat) (w : World) (p : Value) (ra rb : List Nat) : Prop :=
  ∃ cb pa pb, p = .pointer (some ⟨cb, 0, none⟩) ∧ cb < B ∧ w.cell? ⟨cb, 0, none⟩ = some pa ∧ w.cell? ⟨cb, 1, none⟩ = some pb ∧ KeyAt B w pa ra ∧ KeyAt B w pb rb
theorem CipherAt.mono {B : Nat} {w w' : World} {p : Value} {ra rb : List Nat} (h : CipherAt B w p ra rb) (hb : Below B w w') : CipherAt B w' p ra rb := by
  obtain ⟨cb, pa, pb, h1, h2, h3, h4, h5, h6⟩ := h
  exact ⟨cb, pa, pb, h1, h2, (hb.cell (by exact h2)).trans h3, (hb.cell (by exact h2)).trans h4, h5.mono hb, h6.mono hb⟩
theorem CipherAt.up {B B' : Nat} {w : World} {p : Value} {ra rb : List Nat} (h : CipherAt B w p ra rb) (hb : B ≤ B') : CipherAt B' w p ra rb := by
  obtain ⟨cb, pa, pb, h1, h2, h3, h4, h5, h6⟩ := h
  exact ⟨cb, pa, pb, h1, Nat.lt_of_lt_of_le h2 hb, h3, h4, h5.up hb, h6.up hb⟩
theorem CipherAt.next {w w' : World} {p : Value} {ra rb : List Nat} (h : CipherAt w.heap.size w p ra rb) (hb : Below w.heap.size w w') : CipherAt w'.heap.size w' p ra rb := (h.mono hb).up hb.size
theorem KeyAt.next {w w' : World} {p : Value} {ra : List Nat} (h : KeyAt w.heap.size w p ra) (hb : Below w.heap.size w w') : KeyAt w'.heap.size w' p ra := (h.mono hb).up hb.size
theorem KeyAt.form {B : Nat} {w : World} {p : Value} {rk : List Nat} (h : KeyAt B w p rk) : ∃ kb, p = .pointer (some ⟨kb, 0, none⟩) := let ⟨kb, _, h, _⟩ := h; ⟨kb, h⟩
def RetC (ra rb : List Nat) (w : World) (e : Ending) (w' : World) : Prop := ∃ p, e = .returned (.tuple #[p, .int .i64 0]) ∧ CipherAt w'.heap.size w' p ra rb ∧ Below w.heap.size w w'

theorem xnew_short (v1 v2 : Value) (ka kb : List Nat) (w : World) (ha : Bytes ka) (hr1 : RdB w.heap.size w v1 ka) (hr2 : RdB w.heap.size w v2 kb) (h : ¬ (ka.length = 32 ∧ kb.length = 32)) : Calls Try.prog 55 #[v1, v2] w (RetPE 2 w) := by
  by_cases h1 : ka.length = 32
  · have h2 : kb.length ≠ 32 := fun h2 => h ⟨h1, h2⟩
    have C1 : RowKit.Hid (∀ w, RdB w.heap.size w v1 ka → Calls Try.prog 37 #[v1] w (RetK (flatL ka) w)) := Lib.hid (fun w h => new_calls v1 ka w ha h h1)
    have C2 : RowKit.Hid (∀ w, RdB w.heap.size w v2 kb → Calls Try.prog 37 #[v2] w (RetPE 2 w)) := Lib.hid (fun w h => new_short v2 kb w h h2)
    generalize flatL ka = ra at *
    clear h h1 h2
    go_enter Try.func55, Try.ntmps55
    go_wp2_with (first
      | (go_at_call 37; (with_reducible refine (C1.out _ hr1).mono ?_); rintro e w1 ⟨p, rfl, hk1, hb1⟩; replace hr2 := hr2.next hb1)
      | (go_at_call 37; (with_reducible refine (C2.out _ hr2).mono ?_); rintro e w2 ⟨rfl, hb2⟩))
    go_ret2
    exact ⟨rfl, hb1.trans (hb2.mono hb1.size)⟩
  · have C1 : RowKit.Hid (∀ w, RdB w.heap.size w v1 ka → Calls Try.prog 37 #[v1] w (RetPE 2 w)) := Lib.hid (fun w h => new_short v1 ka w h h1)
    clear h h1
    go_enter Try.func55, Try.ntmps55
    go_wp2_with (first
      | (go_at_call 37; refine (C1.out _ hr1).mono ?_; rintro e w1 ⟨rfl, hb1⟩))
    go_ret2
    exact ⟨rfl, hb1⟩

theorem xnew_calls (v1 v2 : Value) (ka kb : List Nat) (w : World) (ha : Bytes ka) (hb : Bytes kb) (hr1 : RdB w.heap.size w v1 ka) (hr2 : RdB w.heap.size w v2 kb) (h1 : ka.length = 32) (h2 : kb.length = 32) :
    Calls Try.prog 55 #[v1, v2] w (RetC (flatL ka) (flatL kb) w) := by
  have C1 : RowKit.Hid (∀ w, RdB w.heap.size w v1 ka → Calls Try.prog 37 #[v1] w (RetK (flatL ka) w)) := Lib.hid (fun w h => new_calls v1 ka w ha h h1)
  have C2 : RowKit.Hid (∀ w, RdB w.heap.size w v2 kb → Calls Try.prog 37 #[v2] w (RetK (flatL kb) w)) := Lib.hid (fun w h => new_calls v2 kb w hb h h2)
  generalize flatL ka = ra at *
  generalize flatL kb = rb at *
  clear h1 h2
  go_enter Try.func55, Try.ntmps55
  go_wp2_with (first
    | (go_at_call 37; (with_reducible refine (C1.out _ hr1).mono ?_); rintro e w1 ⟨pa, rfl, hka, hb1⟩; replace hr2 := hr2.next hb1; obtain ⟨qa, rfl⟩ := hka.form)
    | (go_at_call 37; (with_reducible refine (C2.out _ hr2).mono ?_); rintro e w2 ⟨pb, rfl, hkb, hb2⟩; obtain ⟨qb, rfl⟩ := hkb.form; have hka2 := hka.next hb2)
    | (apply wpList_boxR (.agg #[.pointer (some ⟨qa, 0, none⟩), .pointer (some ⟨qb, 0, none⟩)]); rfl; rfl; rfl; intro cb w3 hcb hcb2 hrow hb3))
  go_ret2
  have s1 := hb1.size
  have s2 := hb2.size
  exact ⟨_, rfl, ⟨cb, _, _, rfl, hcb2, hrow.cell rfl, hrow.cell rfl, hka2.next hb3, hkb.next hb3⟩, hb1.trans ((hb2.mono s1).trans (hb3.mono (by omega)))⟩

/-- may it be a sector? -/
def SecOk (l : List Nat) : Prop := 16 ≤ l.length ∧ l.length ≤ 4096 ∧ l.length % 16 = 0
theorem xright_yes (v : Value) (l : List Nat) (w : World) (hr : RdB w.heap.size w v l) (h : SecOk l) : Calls Try.prog 150 #[v] w (RetP (.bool true) w) := by
  obtain ⟨h1, h2, h3⟩ := h
  have e3 : ((l.length : Int) % 16 == 0) = true := by simp; omega
  go_enter Try.func150, Try.ntmps150
  go_wp2_with (first | (refine wpList_lenB hr rfl rfl rfl ?_))
  go_ret
  exact ⟨rfl, rfl⟩
theorem xright_no (v : Value) (l : List Nat) (w : World) (hr : RdB w.heap.size w v l) (h : ¬ SecOk l) : Calls Try.prog 150 #[v] w (RetP (.bool false) w) := by
  by_cases h1 : 16 ≤ l.length
  · by_cases h2 : l.length ≤ 4096
    · have e3 : ((l.length : Int) % 16 == 0) = false := by
        have : ¬ l.length % 16 = 0 := fun h3 => h ⟨h1, h2, h3⟩
        simp; omega
      clear h
      go_enter Try.func150, Try.ntmps150
      go_wp2_with (first | (refine wpList_lenB hr rfl rfl rfl ?_))
      go_ret
      exact ⟨rfl, rfl⟩
    · clear h
      go_enter Try.func150, Try.ntmps150
      go_wp2_with (first | (refine wpList_lenB hr rfl rfl rfl ?_))
      go_ret
      exact ⟨rfl, rfl⟩
  · clear h
    go_enter Try.func150, Try.ntmps150
    go_wp2_with (first | (refine wpList_lenB hr rfl rfl rfl ?_))
    go_ret
    exact ⟨rfl, rfl⟩

theorem masks_calls (p v : Value) (ra rb b : List Nat) (n : Nat) {A : Int} (hA : A = n) (hn : n ≤ 256) (w : World) (hc : CipherAt w.heap.size w p ra rb) (hrl : rb.length = 240) (hrb : Bytes rb) (hb : Bytes b) (hr : RdB w.heap.size w v b) (hl : b.length = 16) :
    Calls Try.prog 151 #[p, v, .int .i64 A] w (RetLE (maskL (encF rb b 14) n) w) := by
  subst hA
  obtain ⟨cb, pa, pb, rfl, hcb, c0, c1, hka, hkb⟩ := hc
  have hx := encF_blk rb b hrl hrb hl hb 14 (by omega)
  have CE : RowKit.Hid (∀ w, KeyAt w.heap.size w pb rb → RdB w.heap.size w v b → Calls Try.prog 42 #[pb, v] w (RetSE (encF rb b 14) w)) := Lib.hid (fun w hk h => encrypt_calls pb v rb b w hk hrl hrb h hb hl)
  generalize encF rb b 14 = x at *
  have CL : RowKit.Hid (∀ va w, RdB w.heap.size w va x → Calls Try.prog 170 #[va, .int .i64 (n : Int)] w (RetLE (maskL x n) w)) := Lib.hid (fun va w h => list_calls va x n rfl hn w hx.2 h hx.1)
  generalize maskL x n = L at *
  clear hl hrl hx hn
  go_enter Try.func151, Try.ntmps151
  go_wp2_with (first
    | (go_at_call 42; refine (CE.out _ hkb hr).mono ?_; rintro e w1 ⟨v1, rfl, ho1, hb1⟩)
    | (go_at_call 170; refine (CL.out _ _ (RdB.of_own ho1)).mono ?_; rintro e w2 ⟨v2, rfl, ho2, hb2⟩))
  go_ret2
  exact ⟨_, rfl, ho2.base hb1.size, hb1.trans (hb2.mono hb1.size)⟩
theorem masks_short (p v : Value) (ra rb b : List Nat) (A : Int) (w : World) (hc : CipherAt w.heap.size w p ra rb) (hr : RdB w.heap.size w v b) (hl : b.length ≠ 16) :
    Calls Try.prog 151 #[p, v, .int .i64 A] w (RetE 2 w) := by
  obtain ⟨cb, pa, pb, rfl, hcb, c0, c1, hka, hkb⟩ := hc
  have CE : RowKit.Hid (∀ w, KeyAt w.heap.size w pb rb → RdB w.heap.size w v b → Calls Try.prog 42 #[pb, v] w (RetE 2 w)) := Lib.hid (fun w hk h => encrypt_short _ pb v rb b w hk h hl)
  clear hl
  go_enter Try.func151, Try.ntmps151
  go_wp2_with (first
    | (go_at_call 42; refine (CE.out _ hkb hr).mono ?_; rintro e w1 ⟨rfl, hb1⟩))
  go_ret2
  exact ⟨rfl, hb1⟩

theorem turned9_badsec (p vt vs F : Value) (l : List Nat) (w : World) (hr : RdB w.heap.size w vs l) (h : ¬ SecOk l) : Calls Try.prog 121 #[p, vt, vs, F] w (RetE 2 w) := by
  have C := xright_no vs l w hr h
  clear h
  go_enter Try.func121, Try.ntmps121
  go_wp2_with (first | (go_at_call 150; refine C.mono ?_; rintro e w1 ⟨rfl, rfl⟩))
  go_ret2
  exact ⟨rfl, Below.refl _ _⟩
theorem turned9_badtweak (p vt vs F : Value) (l t ra rb : List Nat) (w : World) (hc : CipherAt w.heap.size w p ra rb) (hrt : RdB w.heap.size w vt t) (hr : RdB w.heap.size w vs l) (h : SecOk l) (ht : t.length ≠ 16) : Calls Try.prog 121 #[p, vt, vs, F] w (RetE 2 w) := by
  have C := xright_yes vs l w hr h
  have CM : RowKit.Hid (∀ A, Calls Try.prog 151 #[p, vt, .int .i64 A] w (RetE 2 w)) := Lib.hid (fun A => masks_short p vt ra rb t A w hc hrt ht)
  clear h ht
  go_enter Try.func121, Try.ntmps121
  go_wp2_with (first
    | (go_at_call 150; refine C.mono ?_; rintro e w1 ⟨rfl, rfl⟩)
    | (refine wpList_lenB hr rfl rfl rfl ?_)
    | (go_at_call 151; refine (CM.out _).mono ?_; rintro e w2 ⟨rfl, hb2⟩))
  go_ret2
  exact ⟨rfl, hb2⟩
end Go.Proofs.Ytfinekmegiengaa
