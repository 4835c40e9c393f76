/- The walk of layer 10: bytes, wrapped. -/
import Derived.Test.YtfinekmegiengaaW10a
import Derived.Deep.DrawnRows
namespace Go.Proofs.Ytfinekmegiengaa
open Go.RowKit Nep
set_option maxRecDepth 100000
set_option linter.unusedVariables false
set_option linter.unusedSimpArgs false
set_option maxHeartbeats 2000000
attribute [local go_sem ↓] Go.wp_at_zero Go.wp_at_succ

theorem Below.drewn {w w' : World} (h : Below w.heap.size w.drew w') : Below w.heap.size w w' := (Below.refl _ _).drew.trans h
theorem Reads.cut {B : Nat} {w : World} {vs : List Value} {L : List (List Nat)} (h : Reads B w vs L) (a n : Nat) : Reads B w ((vs.drop a).take n) ((L.drop a).take n) := by
  refine ⟨by rw [List.length_take, List.length_take, List.length_drop, List.length_drop, h.1], fun i x hx => ?_⟩
  rw [List.getElem?_take] at hx ⊢
  split at hx
  · rename_i hi
    rw [if_pos hi]
    rw [List.getElem?_drop] at hx ⊢
    exact h.2 _ x hx
  · cases hx
theorem wpList_cutL {w : World} {ops : Array Oper} {rest : List Oper} {o : Oper} {a : Act} {Q : Exit → Act → World → Prop} {x : Operand} {lo hi mx : Option Operand} {v : Value} {B : Nat} {L : List (List Nat)} (h : RdL B w v L) (A H : Nat)
    (hg : Region.wanted o (yielded ops a.tmps) = true) (ho : o.op = .slice 38 x lo hi mx) (hx : a.eval x = v)
    (hlo : (lo.map a.eval = none ∧ A = 0) ∨ ∃ k N, lo.map a.eval = some (.int k N) ∧ N = (A : Int)) (hhi : (hi.map a.eval = none ∧ mx.map a.eval = none ∧ H = L.length) ∨ ∃ k N, hi.map a.eval = some (.int k N) ∧ N = (H : Int))
    (hmx : mx.map a.eval = none ∨ ∃ k N M, mx.map a.eval = some (.int k N) ∧ N = ((M : Nat) : Int) ∧ H ≤ M ∧ M ≤ L.length) (hLH : A ≤ H) (hHn : H ≤ L.length)
    (hK : ∀ v', RdL B w v' ((L.drop A).take (H - A)) → wpList Try.prog ops Q rest (a.put o.dst v') w) : wpList Try.prog ops Q (o :: rest) a w := by
  obtain ⟨vs, h1, h2⟩ := h
  refine wpList_cut hg ho Try.underlying38 size_bs hx h1 A H hlo hhi hmx hLH hHn fun v' hr => hK v' ⟨(vs.drop A).take (H - A), ?_, h2.cut A (H - A)⟩
  rw [Nat.mul_one, Nat.mul_one] at hr
  have hl : ((L.drop A).take (H - A)).length = H - A := by rw [List.length_take, List.length_drop]; omega
  rw [hl]
  exact hr
theorem take1_getD (L : List (List Nat)) (i : Nat) (h : i < L.length) : (L.drop i).take (i + 1 - i) = [L.getD i []] := by
  rw [show i + 1 - i = 1 from by omega, List.drop_eq_getElem_cons h, List.take_succ_cons, List.take_zero, List.getD_eq_getElem?_getD, List.getElem?_eq_getElem h]
  rfl

theorem RdS.setCell_apart {B s : Nat} {w : World} {v : Value} {n : Nat} {cs : List Value} (h : RdS B s w v n cs) {p : Addr} (x : Value) (ha : Apart p.block v) : RdS B s (w.setCell p x) v n cs := by
  obtain ⟨hl, a, k, hv, hc, hr⟩ := h
  refine ⟨hl, a, k, hv, hc, fun i y hy => ?_⟩
  obtain ⟨ad, rfl, hB, hcell⟩ := hr i y hy
  have hn : 0 < n := by
    have hi := (List.getElem?_eq_some_iff.1 hy).1
    rw [hl] at hi
    rcases Nat.eq_zero_or_pos n with h0 | h0
    · subst h0; simp at hi
    · exact h0
  refine ⟨ad, rfl, hB, ?_⟩
  have hne := ha ad n k hv hn
  have : (w.setCell p x).heap[(ad.add i).block]? = w.heap[(ad.add i).block]? := heap_setCell_other w p _ x (by rw [blk_add]; exact hne)
  rw [← hcell]
  simp [World.cell?, this]
theorem RdB.setCell_apart {B : Nat} {w : World} {v : Value} {l : List Nat} (h : RdB B w v l) {p : Addr} (x : Value) (ha : Apart p.block v) : RdB B (w.setCell p x) v l := RdS.setCell_apart h x ha
theorem size_setCell (w : World) (p : Addr) (x : Value) : (w.setCell p x).heap.size = w.heap.size := by simp
/-- one slice of a row of its own, put in the place of another one -/
theorem OwnL.set {base : Nat} {w : World} {g n c : Nat} {L : List (List Nat)} (h : OwnL base w (.slice (some ⟨g, 0, none⟩) n c) L) (hn : L.length = n) {i : Nat} (hi : i < n) {y : Value} {x : List Nat} (hr : RdB w.heap.size w y x) (ha : Apart g y) :
    OwnL base (w.setCell ⟨g, i, none⟩ y) (.slice (some ⟨g, 0, none⟩) n c) (L.set i x) := by
  obtain ⟨vs, h1, h2, h3⟩ := h
  rw [hn] at h1
  have hap : ∀ z ∈ vs, Apart g z := h3 g rfl
  have hvl : vs.length = n := by rw [h2.1, hn]
  refine ⟨vs.set i y, by rw [List.length_set, hn]; exact own_set h1 i hi y, ⟨by rw [List.length_set, List.length_set]; exact h2.1, fun j u hu => ?_⟩, fun k hk z hz => ?_⟩
  · rw [List.getElem?_set] at hu ⊢
    rw [size_setCell]
    by_cases hij : i = j
    · rw [if_pos hij] at hu ⊢
      rw [if_pos (by omega)] at hu ⊢
      obtain rfl := Option.some.inj hu
      exact ⟨y, rfl, hr.setCell_apart y ha⟩
    · rw [if_neg hij] at hu ⊢
      obtain ⟨z, hz, hzr⟩ := h2.2 j u hu
      exact ⟨z, hz, hzr.setCell_apart y (hap z (List.mem_of_getElem? hz))⟩
  · have hkg : k = g := by have h : some g = some k := hk; injection h with h; exact h.symm
    subst hkg
    rcases List.mem_or_eq_of_mem_set hz with hz | rfl
    · exact hap z hz
    · exact ha
theorem OwnL.slice {base : Nat} {w : World} {v : Value} {L : List (List Nat)} (h : OwnL base w v L) (hn : 0 < L.length) : ∃ g c, v = .slice (some ⟨g, 0, none⟩) L.length c := let ⟨_, h1, _⟩ := h; own_slice h1 hn
theorem OwnL.cell {base : Nat} {w : World} {g n c : Nat} {L : List (List Nat)} (h : OwnL base w (.slice (some ⟨g, 0, none⟩) n c) L) (hn : L.length = n) {i : Nat} (hi : i < n) : (∃ y, w.cell? ⟨g, i, none⟩ = some y) ∧ w.frozen? ⟨g, i, none⟩ = false := by
  obtain ⟨vs, h1, h2, h3⟩ := h
  rw [hn] at h1
  have hvl : vs.length = n := by rw [h2.1, hn]
  exact ⟨⟨_, own_cell h1 (List.getElem?_eq_getElem (show i < vs.length by omega))⟩, own_frozen h1 i⟩
/-- cuts of bytes at a number told, as runs -/
theorem run_cutTo {B : Nat} {w : World} {v : Value} {l : List Nat} (h : RdB B w v l) (H : Nat) (hHn : H ≤ l.length) {M : Int} (hM : M = H) :
    ∃ v', (∀ W, (Instr.slice 28 v none (some (.int .i64 M)) none).run Try.prog W = .ok v' W) ∧ RdB B w v' (l.take H) := by
  subst hM
  obtain ⟨v', hr, hd⟩ := run_sliceS Try.underlying28 size_u8 h none (some (.int .i64 (H : Int))) none 0 H (.inl ⟨rfl, rfl⟩) (.inr ⟨_, rfl⟩) (.inl rfl) (Nat.zero_le _) hHn
  refine ⟨v', hr, ?_⟩
  unfold RdB
  rw [Nat.mul_one, Nat.mul_one, bv_drop, bv_take, List.drop_zero, Nat.sub_zero] at hd
  have hl : (l.take H).length = H := by rw [List.length_take]; omega
  rw [hl]
  exact hd
theorem run_cutFrom {B : Nat} {w : World} {v : Value} {l : List Nat} (h : RdB B w v l) (L : Nat) (hLn : L ≤ l.length) {M : Int} (hM : M = L) :
    ∃ v', (∀ W, (Instr.slice 28 v (some (.int .i64 M)) none none).run Try.prog W = .ok v' W) ∧ RdB B w v' (l.drop L) := by
  subst hM
  obtain ⟨v', hr, hd⟩ := run_sliceS Try.underlying28 size_u8 h (some (.int .i64 (L : Int))) none none L l.length (.inr ⟨_, rfl⟩) (.inl ⟨rfl, rfl, rfl⟩) (.inl rfl) hLn (Nat.le_refl _)
  refine ⟨v', hr, ?_⟩
  unfold RdB
  rw [Nat.mul_one, Nat.mul_one, bv_drop, bv_take] at hd
  have e : (l.drop L).take (l.length - L) = l.drop L := List.take_of_length_le (by rw [List.length_drop]; exact Nat.le_refl _)
  rw [e] at hd
  rw [List.length_drop]
  exact hd

theorem cutFrom_apart {B : Nat} {w : World} {v v' : Value} {l : List Nat} (h : RdB B w v l) (L : Nat) (hL : L ≤ l.length) {M : Int} (hM : M = L) (hr : (Instr.slice 28 v (some (.int .i64 M)) none none).run Try.prog w = .ok v' w) {g : Nat} (ha : Apart g v) : Apart g v' := by
  subst hM
  obtain ⟨_, a, c, rfl, hc, _⟩ := h
  obtain ⟨i, hi, hz, hs, hb⟩ := info_parts info_u8
  have e4 : (L : Int) ≤ (l.length : Int) := by omega
  have e5 : l.length ≤ c := hc
  simp [Instr.slice, Instr.sliceBounds, Instr.sliceBound, asIntOf, run_underlying Try.underlying28, sizeOf, typeInfo, hi, hs, e4, hL, e5] at hr
  subst hr
  intro ad n k he hn
  simp only [Value.slice.injEq] at he
  obtain ⟨h1, h2, h3⟩ := he
  cases a with
  | none => split at h1 <;> simp at h1
  | some a0 =>
    have hb0 : a0.block ≠ g := ha a0 _ _ rfl (by omega)
    split at h1
    · injection h1 with h1; rw [← h1]; exact hb0
    · simp only [Option.map_some, Option.some.injEq] at h1
      rw [← h1, blk_add]; exact hb0
theorem wrap_bad (v1 v2 : Value) (key b : List Nat) (w : World) (hkb : Bytes key) (hr1 : RdB w.heap.size w v1 key) (hr2 : RdB w.heap.size w v2 b) (h : ¬ (key.length = 32 ∧ WOk b.length)) : Calls Try.prog 68 #[v1, v2] w (RetE 2 w) := by
  by_cases h32 : key.length = 32
  · have hw : ¬ WOk b.length := fun hw => h ⟨h32, hw⟩
    have C1 : RowKit.Hid (∀ w, RdB w.heap.size w v1 key → Calls Try.prog 37 #[v1] w (RetK (flatL key) w)) := Lib.hid (fun w h => new_calls v1 key w hkb h h32)
    have C2 : RowKit.Hid (∀ w, Calls Try.prog 127 #[.int .i64 (b.length : Int)] w (RetP (.bool false) w)) := Lib.hid (fun w => wright_no b.length rfl hw w)
    generalize flatL key = rk at *
    clear h h32 hw
    go_enter Try.func68, Try.ntmps68
    go_wp2_with (first
      | (go_at_call 37; refine (C1.out _ hr1).mono ?_; rintro e w1 ⟨p, rfl, hk1, hb1⟩; have hr2a := hr2.next hb1)
      | (refine wpList_lenB hr2a rfl rfl rfl ?_)
      | (go_at_call 127; refine (C2.out _).mono ?_; rintro e w2 ⟨rfl, rfl⟩))
    go_ret2
    exact ⟨rfl, hb1⟩
  · have C1 : RowKit.Hid (∀ w, RdB w.heap.size w v1 key → Calls Try.prog 37 #[v1] w (RetPE 2 w)) := Lib.hid (fun w h => new_short v1 key w h h32)
    clear h h32
    go_enter Try.func68, Try.ntmps68
    go_wp2_with (first
      | (go_at_call 37; refine (C1.out _ hr1).mono ?_; rintro e w1 ⟨rfl, hb1⟩))
    go_ret2
    exact ⟨rfl, hb1⟩

theorem wrap_calls (v1 v2 : Value) (key b : List Nat) (n : Nat) (w : World) (hkb : Bytes key) (hr1 : RdB w.heap.size w v1 key) (h32 : key.length = 32) (hbb : Bytes b) (hr2 : RdB w.heap.size w v2 b) (hl : b.length = 8 * n) (hn2 : 2 ≤ n) (hn32 : n ≤ 32) :
    Calls Try.prog 68 #[v1, v2] w (RetSE (flatP (wrapAR (encE key) n (ivA, parts8 b n) (6 * n))) w) := by
  have hE := encE_blocks key h32 hkb
  have C1 : RowKit.Hid (∀ w, RdB w.heap.size w v1 key → Calls Try.prog 37 #[v1] w (RetK (flatL key) w)) := Lib.hid (fun w h => new_calls v1 key w hkb h h32)
  have C2 : RowKit.Hid (∀ w, Calls Try.prog 127 #[.int .i64 (b.length : Int)] w (RetP (.bool true) w)) := Lib.hid (fun w => wright_yes b.length rfl ⟨by omega, by omega, by omega⟩ w)
  have C3 : RowKit.Hid (∀ w, Calls Try.prog 124 #[.int .u8 166, .int .i64 8] w (RetS ivA w)) := Lib.hid (fun w => fill_calls 166 8 rfl rfl (by omega) w)
  have C4 : RowKit.Hid (∀ w, RdB w.heap.size w v2 b → Calls Try.prog 128 #[v2] w (RetL (parts8 b n) w)) := Lib.hid (fun w h => parts_calls v2 b n w h hl (by omega))
  have CE : RowKit.Hid (∀ x, x.length = 16 → Bytes x → ∀ p va w, KeyAt w.heap.size w p (flatL key) → RdB w.heap.size w va x → Calls Try.prog 42 #[p, va] w (RetSE (encE key x) w)) := Lib.hid (fun x hx hxb p va w hk h => encrypt_calls p va _ x w hk (flatL_length key h32 hkb) (flatL_bytes key h32 hkb) h hxb hx)
  have hst := st_parts (n := n) hl hbb ivA_oct
  generalize flatL key = rk at *
  generalize encE key = E at *
  obtain ⟨p, hp⟩ : ∃ p : Nat → List Nat × List (List Nat), p = wrapAR E n (ivA, parts8 b n) := ⟨_, rfl⟩
  have hpst : ∀ t, St n (p t) := fun t => by rw [hp]; exact wrapAR_st hE (by omega) hst t
  have hps : ∀ t, p (t + 1) = wrapStep E (t + 1) (t % n) (p t) := fun t => by rw [hp]; rfl
  have hp0 : p 0 = (ivA, parts8 b n) := by rw [hp]; rfl
  rw [show wrapAR E n (ivA, parts8 b n) (6 * n) = p (6 * n) from by rw [hp]]
  have HE := Lib.hid hE
  have HST := Lib.hid hpst
  have HPS := Lib.hid hps
  have HP0 := Lib.hid hp0
  have hpl : (parts8 b n).length = n := parts8_length _ _
  have HPL := Lib.hid hpl
  clear hE hst hpst hps hp0 hp hl h32 hpl
  go_enter Try.func68, Try.ntmps68
  go_wp2_with (first
    | (go_at_call 37; refine (C1.out _ hr1).mono ?_; rintro e w1 ⟨kp, rfl, hk1, hb1⟩; have hr2a := hr2.next hb1)
    | (refine wpList_lenB hr2a rfl rfl rfl ?_)
    | (go_at_call 127; refine (C2.out _).mono ?_; rintro e w2 ⟨rfl, rfl⟩)
    | (go_at_call 124; refine (C3.out _).mono ?_; rintro e w3 ⟨va, rfl, ha3, hb3⟩)
    | (go_at_call 128; refine (C4.out _ (hr2a.next hb3)).mono ?_; rintro e w4 ⟨vr, rfl, hr4, hb4⟩))
  have s1 := hb1.size
  have s3 := hb3.size
  have s4 := hb4.size
  have hk3 := (hk1.next hb3).mono hb4
  have ha4 := (RdB.of_own ha3).mono hb4
  have hb14 : Below w.heap.size w w4 := hb1.trans ((hb3.mono s1).trans (hb4.mono (by omega)))
  obtain ⟨B, hB⟩ : ∃ B, B = w3.heap.size := ⟨_, rfl⟩
  rw [← hB] at hk3 ha4 hr4 s4
  have hwB : w.heap.size ≤ B := by omega
  obtain ⟨gr, cr, hvr⟩ := hr4.slice (by rw [HPL.out]; omega)
  rw [HPL.out] at hvr
  subst hvr
  have hgB : B ≤ gr := (hr4.block_lt gr rfl).1
  have hap4 : Apart gr va := ha4.apart hgB
  rw [show ivA = (p 0).1 from by rw [HP0.out]] at ha4
  rw [show parts8 b n = (p 0).2 from by rw [HP0.out]] at hr4
  have ha4' := ha4.up s4
  clear C1 C2 C3 C4 hr1 hr2 hr2a hb1 hb3 hb4 hk1 ha3 s1 s3 hB ha4
  go_loopw [8, 30] (fun a jj wr => ∃ j : Nat, j ≤ 6 ∧ jj = .int .i64 j ∧ RdB wr.heap.size wr a (p (n * j)).1 ∧ Apart gr a ∧ OwnL B wr (.slice (some ⟨gr, 0, none⟩) n cr) (p (n * j)).2 ∧ Below B w4 wr) (fun _ jj _ => 6 - (intOf jj).toNat)
  case atStart => exact ⟨0, by omega, rfl, ha4', hap4, hr4, Below.refl _ _⟩
  case round =>
    obtain ⟨j, hj, rfl, haj, hapj, hrj, hbj⟩ := hrel
    clear ha4' hap4 hr4
    by_cases hlt : j < 6
    · have hpl2 := (HST.out (n * j)).2.1
      have HPL2 := Lib.hid hpl2
      clear hpl2
      go_wp2_with (first | (refine wpList_lenL hrj.rd rfl rfl rfl ?_; rw [HPL2.out]))
      go_loopw [8, 35] (fun a ii wr => ∃ i : Nat, i ≤ n ∧ ii = .int .i64 i ∧ RdB wr.heap.size wr a (p (n * j + i)).1 ∧ Apart gr a ∧ OwnL B wr (.slice (some ⟨gr, 0, none⟩) n cr) (p (n * j + i)).2 ∧ Below B w4 wr) (fun _ ii _ => n - (intOf ii).toNat)
      case atStart => exact ⟨0, by omega, rfl, haj, hapj, hrj, hbj⟩
      case round =>
        obtain ⟨i, hi, rfl, hai, hapi, hri, hbi⟩ := hrel
        clear haj hapj hrj hbj HPL2
        by_cases hin : i < n
        · obtain ⟨t, ht⟩ : ∃ t, t = n * j + i := ⟨_, rfl⟩
          have hmod : t % n = i := by rw [ht, Nat.mul_add_mod, Nat.mod_eq_of_lt hin]
          obtain ⟨nj, hnj⟩ : ∃ nj, nj = n * j := ⟨_, rfl⟩
          have hnj192 : nj ≤ 192 := by
            have := Nat.mul_le_mul hn32 (show j ≤ 6 by omega)
            omega
          have hnext := HPS.out t
          rw [hmod] at hnext
          have hnt : n * j + (i + 1) = t + 1 := by omega
          rw [← ht] at hai hri
          have hst := HST.out t
          have hxb := wrapX_blk HE.out hst hin
          obtain ⟨q, hq⟩ : ∃ q, q = p t := ⟨_, rfl⟩
          rw [← hq] at hai hri hst hxb hnext
          obtain ⟨hqa, hql, hqo⟩ := hst
          have hro := hqo.get (show i < q.2.length by omega)
          obtain ⟨ri, hri'⟩ : ∃ ri, ri = q.2.getD i [] := ⟨_, rfl⟩
          obtain ⟨x, hx⟩ : ∃ x, x = wrapX E i q := ⟨_, rfl⟩
          rw [← hx] at hxb
          have hxe : x = E (q.1 ++ ri) := by rw [hx, hri']; rfl
          rw [← hri'] at hro
          have hz := hqa.app hro
          have hcut : (q.2.drop i).take (i + 1 - i) = [ri] := by rw [take1_getD _ _ (by omega), ← hri']
          have hstep : p (t + 1) = (mix8 (x.take 8) (t + 1), q.2.set i (x.drop 8)) := by rw [hnext, hx]; rfl
          have CJ : RowKit.Hid (∀ va vL w, RdB w.heap.size w va q.1 → RdL w.heap.size w vL [ri] → Calls Try.prog 129 #[va, vL] w (RetS (q.1 ++ ri) w)) := Lib.hid (fun va vL w h1 h2 => by
            have h := join_calls va vL q.1 [ri] w h1 h2 (by rw [hqa.1]; omega) (fun y hy => by simp at hy; subst hy; rw [hro.1]; omega) (by simp)
            simpa using h)
          have CX := CE.out (q.1 ++ ri) hz.1 hz.2
          rw [← hxe] at CX
          have HCX := Lib.hid CX
          have hto := oct_take hxb.1 hxb.2
          have CM : RowKit.Hid (∀ va w, RdB w.heap.size w va (x.take 8) → Calls Try.prog 130 #[va, .int .i64 ((t + 1 : Nat) : Int)] w (RetS (mix8 (x.take 8) (t + 1)) w)) := Lib.hid (fun va w h => mixed10_calls va _ (t + 1) rfl (by omega) w hto.2 h hto.1)
          have HQL := Lib.hid hql
          have HCUT := Lib.hid hcut
          have HSTEP := Lib.hid hstep
          have HNT := Lib.hid hnt
          have HXB := Lib.hid hxb
          have hbs := hbi.size
          have hBs : B ≤ wr.heap.size := by omega
          have hkr := (hk3.mono hbi).up hBs
          have hgrs := (hri.block_lt gr rfl).2
          have iq : i + 1 ≤ q.2.length := by omega
          have e1 : IntKind.i64.wrap ((n : Int) * (j : Int)) = (nj : Int) := by rw [hnj, Int.natCast_mul]; exact IntWalk.i64_in _ (by rw [← Int.natCast_mul, ← hnj]; omega)
          have e2 : IntKind.i64.wrap ((nj : Int) + (i : Int)) = (t : Int) := by rw [ht, ← hnj, IntWalk.i64_in _ (by omega)]; omega
          have e3 : IntKind.i64.wrap ((t : Int) + 1) = ((t + 1 : Nat) : Int) := by rw [IntWalk.i64_in _ (by omega)]; omega
          obtain ⟨t1, ht1⟩ : ∃ t1, t1 = t + 1 := ⟨_, rfl⟩
          rw [← ht1] at CM e3 hstep HSTEP hnt HNT
          have E1 := Lib.hid e1
          have E2 := Lib.hid e2
          have E3 := Lib.hid e3
          have hni : (i : Int) < (n : Int) := by omega
          clear hmod hnext hq hx hxe hri' hz hcut hstep CX hto hnt hxb hql ht hnj ht1 e1 e2 e3 hqa hqo hro
          go_wp2_with (first
            | (apply wpList_cutL hri.rd i (i + 1); rfl; rfl; rfl; exact .inr ⟨_, _, rfl, by omega⟩; exact .inr ⟨_, _, rfl, by omega⟩; exact .inl rfl; omega; exact iq; intro vL hL; rw [HCUT.out] at hL)
            | (go_at_call 129; refine (CJ.out _ _ _ hai hL).mono ?_; rintro e w5 ⟨v5, rfl, ho5, hb5⟩; have hri5 := hri.next hb5; have hkr5 := hkr.next hb5)
            | (go_at_call 42; refine (HCX.out _ _ _ hkr5 (RdB.of_own ho5)).mono ?_; rintro e w6 ⟨v6, rfl, ho6, hb6⟩; have hri6 := hri5.next hb6))
          have s5 := hb5.size
          have s6 := hb6.size
          have hx6 := RdB.of_own ho6
          obtain ⟨u1, hu1, hru1⟩ := run_cutTo hx6 8 (by rw [HXB.out.1]; omega) (M := 8) rfl
          obtain ⟨u2, hu2, hru2⟩ := run_cutFrom hx6 8 (by rw [HXB.out.1]; omega) (M := 8) rfl
          have hap2 : Apart gr u2 := cutFrom_apart hx6 8 (by rw [HXB.out.1]; omega) (M := 8) rfl (hu2 _) (own_apart ho6 (by omega))
          have hru2c := hru2
          obtain ⟨_, a2, c2, rfl, _, _⟩ := hru2c
          have e8 : (x.drop 8).length = 8 := by rw [List.length_drop, HXB.out.1]
          rw [e8] at hru2 hu2 hap2
          clear e8
          have hB6 : B ≤ w6.heap.size := by omega
          have hbw6 : Below B w4 w6 := hbi.trans ((hb5.mono hBs).trans (hb6.mono (by omega)))
          have e1 := E1.out
          have e2 := E2.out
          have e3 := E3.out
          clear hb5 hb6 hbi hri hri5 hkr hkr5 hai hL ho5
          go_region_held3 (fun w' => Below B w6.drew w')
            (first | exact Below.refl _ _ | exact (‹Below B w6.drew _›).trans (hb7.mono hB6) | exact (‹Below B w6.drew _›).setCell (by exact hgB) _ | assumption)
            (first
              | (go_at_call 130; refine (CM.out _ _ (hru1.next (Below.refl _ _).drew)).mono ?_; rintro e w7 ⟨v7, rfl, ho7, hb7⟩; have hri7 := hri6.next (Below.drewn hb7); obtain ⟨⟨yo, hyo⟩, hfo⟩ := hri7.cell HQL.out hin))
          have hru7 := hru2.next (Below.drewn hb7)
          have hset := hri7.set HQL.out hin hru7 hap2
          have hap7 : Apart gr v7 := own_apart ho7 (by show gr < w6.heap.size; omega)
          have hv7 := (RdB.of_own ho7).setCell_apart (p := ⟨gr, i, none⟩) (.slice a2 8 c2) hap7
          have hb8 : Below B w4 (w7.setCell ⟨gr, i, none⟩ (.slice a2 8 c2)) := (hbw6.trans ((Below.drewn hb7).mono hB6)).setCell (by exact hgB) _
          clear e1 e2 e3 hu1 hu2 hyo hfo
          go_wp2_with fail
          go_roundw
          case rel => exact ⟨i + 1, by omega, by go_num, by rw [HNT.out, HSTEP.out, size_setCell]; exact hv7, hap7, by rw [HNT.out, HSTEP.out]; exact hset, hb8⟩
          case measure => simp [intOf]; omega
        · obtain rfl : i = n := by omega
          rw [show i * j + i = i * (j + 1) from by rw [Nat.mul_add, Nat.mul_one]] at hai hri
          go_wp2_with fail
          go_roundw
          case rel => exact ⟨j + 1, by omega, by go_num, hai, hapi, hri, hbi⟩
          case measure => simp [intOf]; omega
    · obtain rfl : j = 6 := by omega
      have hst := HST.out (n * 6)
      obtain ⟨q, hq⟩ : ∃ q, q = p (n * 6) := ⟨_, rfl⟩
      rw [← hq] at hst haj hrj
      have HQ := Lib.hid hq
      have CJ : RowKit.Hid (∀ va vL w, RdB w.heap.size w va q.1 → RdL w.heap.size w vL q.2 → Calls Try.prog 129 #[va, vL] w (RetS (flatP q) w)) := Lib.hid (fun va vL w h1 h2 => join_calls va vL q.1 q.2 w h1 h2 (by rw [hst.1.1]; omega) (fun y hy => by rw [(hst.2.2 y hy).1]; omega) (by rw [hst.2.1]; omega))
      clear hq hst
      have hbs := hbj.size
      go_wp2_with (first | (go_at_call 129; refine (CJ.out _ _ _ haj hrj.rd).mono ?_; rintro e w5 ⟨v5, rfl, ho5, hb5⟩))
      go_ret2
      have hbw := hb14.trans (hbj.mono hwB)
      refine ⟨_, rfl, ?_, hbw.trans (hb5.mono hbw.size)⟩
      rw [Nat.mul_comm 6 n, ← HQ.out]
      exact own_base ho5 hbw.size
end Go.Proofs.Ytfinekmegiengaa
