/- Part 13 of 22 of the proof that the law TopAnewBlend returns true and leaves its argument as it read before, for every input that the bounded statement admits (what it reads is of bulk at most 1048576). -/
import Derived.Test.YtbgfkbdcpfngaaaP06
import Derived.Test.YtbgfkbdcpfngaaaP12
section
open Go Go.Proofs Go.Proofs.Ytbgfkbdcpfngaaa
set_option maxRecDepth 100000
namespace Go.Proofs.Ytbgfkbdcpfngaaa.B
theorem hcb25z : cbuild Try.prog 25 [] = some (.agg ⟨[.int .i64 0, .int .i64 0]⟩) := by kernel_rfl
set_option maxHeartbeats 1000000 in
theorem Stays26 {l : Wxs} {w : WiD} {m : CM} (hl : l.In m) (hw : w.In m) {v : Value} {n : Nat} {x : Nat → Int} (hv : Sl 1 m v n (fun i => [.int .i64 (x i)])) (hn : n < 4611686018427387904) {q : Int} {K : Value → CM → Prop} {Kp : List PanicEntry → CM → Prop} (hK : ∀ m' (a b e : Int), m.le m' → K (.tuple ⟨[.agg ⟨[.int .i64 a, .int .i64 b]⟩, .int .i64 e]⟩) m') :
    callw Try.prog 26 [l.v, .agg ⟨w.cells⟩, v, .int .i64 q] m K Kp := by
  apply c26
  unfold s26
  refine box_of fun t4 m1 hle1 hb4 o4 => box_of fun t5 m2 hle2 hb5 o5 => box_of fun t6 m3 hle3 hb6 o6 => box_of fun t7 m4 hle4 hb7 o7 => alw_of ze25 fun t8 m5 hle5 hb8 o8 => ?_
  rw [Wxs.vone hl] at o4
  replace o5 : Own m2 t5 w.cells 0 := o5
  rw [toL_one hv.one] at o6
  replace o7 : Own m4 t7 [.int .i64 q] 0 := o7
  have a1 := hle1.1; have a2 := hle2.1; have a3 := hle3.1; have a4 := hle4.1; have a5 := hle5.1
  have c4 := o4.1; have c5 := o5.1; have c6 := o6.1; have c7 := o7.1; have c8 := o8.1
  have hle := (((hle1.trans hle2).trans hle3).trans hle4).trans hle5
  replace o4 := (((o4.le hle2).le hle3).le hle4).le hle5
  replace o5 := ((o5.le hle3).le hle4).le hle5
  replace o6 := (o6.le hle4).le hle5
  replace o7 := o7.le hle5
  -- an error
  have er : ∀ {M : CM} {a b e : Int}, m.le M → Own M t8 [.int .i64 a, .int .i64 b] 0 → pop (cload Try.prog 25 (.pointer (some ⟨t8, 0, none⟩)) M) M (fun t19 m => sop (cstore Try.prog 25 (.pointer (some ⟨t8, 0, none⟩)) t19 m) (fun _ m => (∀ l, Exit.ret ≠ .goto l) ∧ leaveV Try.prog [.c 25 (.pointer (some ⟨t8, 0, none⟩)), .v (.int .i64 e)] [] .ret m (RK K Kp))) := by
    intro M a b e hM o
    rw [lda o ag25 sz25, pop_some]
    refine store_own o (by simp [toL, sz25]) (by simp [toL]) rfl fun M2 hn2 hx2 o2 => ⟨(fun l h => by cases h), ?_⟩
    simp only [toL] at o2
    refine leave_rvs (.c (lda o2 ag25 sz25) (.v .nil)) ?_
    show RK K Kp (.ret (.tuple ⟨[_, _]⟩)) M2
    rw [RK_ret]; exact hK _ _ _ _ (le_of_put hM (by omega) hn2 hx2)
  rw [o4.cel.z ag22 (j := 0) rfl, pop_some, lda o5 ag27 sz27, pop_some]
  refine odd50 (hl.le hle) (hw.le hle) fun m6 e hle6 h6 => ?_
  replace hle := hle.trans hle6
  replace o4 := o4.le hle6
  replace o5 := o5.le hle6
  replace o6 := o6.le hle6
  replace o7 := o7.le hle6
  replace o8 := o8.le hle6
  rw [cb_neq, pop_some]
  cases hb : (e != 0) with
  | true => rw [cnd_true]; exact er hle o8
  | false =>
  obtain ⟨hok, hwo⟩ := h6 (by simpa using hb)
  have hn5 := hok.n5
  rw [cnd_false, o4.cel.z ag22 (j := 0) rfl, pop_some, o6.cel.z ag28 (j := 0) rfl, pop_some]
  refine strange51 (hl.le hle) (hv.le hle) hn fun m7 e7 hle7 h7 => ?_
  replace hle := hle.trans hle7
  replace o4 := o4.le hle7
  replace o5 := o5.le hle7
  replace o6 := o6.le hle7
  replace o7 := o7.le hle7
  replace o8 := o8.le hle7
  rw [cb_neq, pop_some]
  cases hb7 : (e7 != 0) with
  | true => rw [cnd_true]; exact er hle o8
  | false =>
  obtain ⟨hnl, hx⟩ := h7 (by simpa using hb7)
  subst hnl
  rw [cnd_false, o4.cel.z ag22 (j := 0) rfl, pop_some, hl.s.len Try.underlying22, pop_some, cb_sub, pop_some, wrap_id (by omega) (by omega), ldi o7 (j := 0) rfl, pop_some]
  refine outD Try.underlying28 sz3 ze3 out35 (xs := [q]) (k := 1) rfl (by decide) rfl fun t34 mT b8 m8 hle8 h8 => ?_
  replace hle := hle.trans hle8
  replace o4 := o4.le hle8
  replace o5 := o5.le hle8
  replace o6 := o6.le hle8
  replace o7 := o7.le hle8
  replace o8 := o8.le hle8
  cases b8 with
  | true => rw [cnd_true]; exact er hle o8
  | false =>
  have hq := h8 rfl q (by simp)
  rw [cnd_false, o4.cel.z ag22 (j := 0) rfl, pop_some, lda o5 ag27 sz27, pop_some, o6.cel.z ag28 (j := 0) rfl, pop_some]
  refine why52 (hl.le hle) hok (hw.le hle) hwo.e (hv.le hle) fun m9 r hle9 => ?_
  replace hle := hle.trans hle9
  replace o4 := o4.le hle9
  replace o5 := o5.le hle9
  replace o6 := o6.le hle9
  replace o7 := o7.le hle9
  replace o8 := o8.le hle9
  rw [cb_neq, pop_some]
  cases (r != 0) with
  | true => rw [cnd_true]; exact er hle o8
  | false =>
  rw [cnd_false]
  refine alw_of ze99 fun t10 mA hleA hbA oA => store_own oA (by simp [toL, sz99]) (by simp [toL]) rfl fun mB hnB hxB oA => ?_
  simp only [toL] at oA
  have a6 := hle6.1; have a7 := hle7.1; have a8 := hle8.1; have a9 := hle9.1; have aA := hleA.1; have cA := oA.1
  have hleB := le_of_put hleA hbA hnB hxB
  replace hle := hle.trans hleB
  replace o4 := o4.le hleB
  replace o5 := o5.le hleB
  replace o6 := o6.le hleB
  replace o7 := o7.le hleB
  replace o8 := o8.le hleB
  rw [fz25_1, pop_some]
  refine o8.store (by simp [toL, sz3]) (by simp [toL]) rfl fun mC hnC hxC o8 => ?_
  have o8' : Own mC t8 [.int .i64 0, .int .i64 100000] 0 := o8
  replace o4 := o4.sub hnC (hxC _ (by omega))
  replace o5 := o5.sub hnC (hxC _ (by omega))
  replace o6 := o6.sub hnC (hxC _ (by omega))
  replace o7 := o7.sub hnC (hxC _ (by omega))
  replace oA := oA.sub hnC (hxC _ (by omega))
  replace hle := le_of_put hle (by omega) hnC hxC
  rw [o4.cel.z ag22 (j := 0) rfl, pop_some, lda o5 ag27 sz27, pop_some]
  refine fitting53 (hl.le hle) (hw.le hle) fun mD L W hleD hL hW oL oW => ?_
  have aD := hleD.1
  refine range26 (l := l) (w := w) (m0 := m) (t5 := t5) (x := x) rfl rfl rfl rfl rfl hok hwo (hle.trans hleD) hl hw hv hq.1 (by omega) (o4.le hleD) (o6.le hleD) (o7.le hleD) (oA.le hleD) oL oW (o8'.le hleD) (by omega) ⟨by omega, by omega, by omega, by omega, by omega, by omega⟩ fun e M a b he hd hn2 hM ht8 o => ?_
  have fin : j26_0 (RK K Kp) (.pointer (some ⟨t8, 0, none⟩)) [mark mD.next] M := by
    unfold j26_0
    simp only [fz25_0, fz25_1, pop_some]
    rw [ldi o (j := 0) rfl]
    simp only [pop_some]
    rw [ldi o (j := 1) rfl]
    simp only [pop_some, cb_gtr]
    have out : ∀ {M1 : CM} {a b e : Int}, M1.next = M.next → (∀ x, x ≠ t8 → M1.get x = M.get x) → Own M1 t8 [.int .i64 a, .int .i64 b] 0 → leaveV Try.prog [.c 25 (.pointer (some ⟨t8, 0, none⟩)), .v (.int .i64 e)] [mark mD.next] .ret M1 (RK K Kp) := by
      intro M1 a b e h1 h2 o1
      refine leave_rvm (Ds := [mD.next]) (vs := [.agg ⟨[.int .i64 a, .int .i64 b]⟩, .int .i64 e]) (fun D hD => by simp at hD; subst hD; rw [h2 _ (by omega)]; exact hd) (by simp) fun M2 hn2 hx2 => ?_
      have hx2' : ∀ x, x ≠ mD.next → M2.get x = M1.get x := fun x hx => hx2 x (by simpa using hx)
      refine ⟨.c (lda (o1.sub hn2 (hx2' _ (by omega))) ag25 sz25) (.v .nil), ?_⟩
      show RK K Kp (.ret (.tuple ⟨[_, _]⟩)) M2
      rw [RK_ret]
      have hs := le_of_put hM (by omega) h1 h2
      exact hK _ _ _ _ ⟨by rw [hn2]; exact hs.1, fun y hy => by rw [hx2' y (by omega)]; exact hs.2 y hy⟩
    cases decide (b < a) with
    | true =>
      rw [cnd_true, hcb25z, pop_some]
      refine store_own o (by simp [toL, sz25]) (by simp [toL]) rfl fun M2 hn2 hx2 o2 => ⟨(fun l h => by cases h), out hn2 hx2 o2⟩
    | false =>
      rw [cnd_false, lda o ag25 sz25, pop_some]
      refine store_own o (by simp [toL, sz25]) (by simp [toL]) rfl fun M2 hn2 hx2 o2 => ⟨(fun l h => by cases h), out hn2 hx2 o2⟩
  rcases he with rfl | rfl
  · exact fin
  · exact fin
end Go.Proofs.Ytbgfkbdcpfngaaa.B
end

section
open Go Go.Proofs Go.Proofs.Ytbgfkbdcpfngaaa
set_option maxRecDepth 100000
namespace Go.Proofs.Ytbgfkbdcpfngaaa
/-! ### What the harness' closures leave -/
theorem own_fw {m m' : CM} {h b e : Nat} {l : List Value} (ho : Own m b l e) (hb : b ≠ h) (hf : FW (keepBut m h) m') : Own m' b l e := by
  obtain ⟨h1, h2⟩ := hf _ _ (keepBut_get ho.1 hb)
  exact ⟨h1, by rw [h2]; exact ho.2⟩
theorem lm : (1000 : Nat) ≤ lim := by decide
theorem lim62 : lim < 4611686018427387904 := by decide
theorem row_int {e : Nat} {c : List Value} {i : Nat} (h : ∀ u ∈ c, ∃ k, u = .int .i64 k) : ∀ u ∈ rowE e c i, ∃ k, u = .int .i64 k := fun u hu => h u (List.mem_of_mem_drop (List.mem_of_mem_take hu))
theorem wtlN1 {F : Keep} {l : List Value} (hl : l.length = 1) (h : ∀ u ∈ l, ∃ k, u = .int .i64 k) : WTL F [.i] 1 l := by
  match l, hl with
  | [a], _ =>
    obtain ⟨x, rfl⟩ := h a (by simp)
    exact .cons (k := 1) (k' := 0) (.i x) .nil
theorem wtlN2 {F : Keep} {l : List Value} (hl : l.length = 2) (h : ∀ u ∈ l, ∃ k, u = .int .i64 k) : WTL F [.i, .i] 2 l := by
  match l, hl with
  | [a, b], _ =>
    obtain ⟨x, rfl⟩ := h a (by simp)
    obtain ⟨y, rfl⟩ := h b (by simp)
    exact .cons (k := 1) (k' := 1) (.i x) (.cons (k := 1) (k' := 0) (.i y) .nil)
theorem HVe.wt1 {m : CM} {h n : Nat} {v : Value} {bn : Option Nat} {c : List Value} (hv : HVe 1 m v bn c n) (hb : ∀ y, bn = some y → y ≠ h) (hi : ∀ u ∈ c, ∃ k, u = .int .i64 k) : WT (keepBut m h) (.sl [.i]) (1 + sumN (fun _ => 1) n) v :=
  hv.wt hb rfl (by decide) fun i hin => wtlN1 (rowE_len hv.len hin) (row_int hi)
theorem HVe.wt2 {m : CM} {h n : Nat} {v : Value} {bn : Option Nat} {c : List Value} (hv : HVe 2 m v bn c n) (hb : ∀ y, bn = some y → y ≠ h) (hi : ∀ u ∈ c, ∃ k, u = .int .i64 k) : WT (keepBut m h) (.sl [.i, .i]) (1 + sumN (fun _ => 2) n) v :=
  hv.wt hb rfl (by decide) fun i hin => wtlN2 (rowE_len hv.len hin) (row_int hi)
theorem HVe.to {e n m0 : Nat} {m1 M : CM} {v : Value} {bn : Option Nat} {c : List Value} (hv : HVe e m1 v bn c n) (hb : ∀ y, bn = some y → m0 ≤ y) (hc : ∀ x c e o, m0 ≤ x → x < m1.next → m1.get x = some (.cells c e o) → M.get x = some (.cells c e o)) (hn : m1.next ≤ M.next) : HVe e M v bn c n := by
  cases hv with
  | nil => exact .nil
  | blk ho hl => exact .blk ⟨Nat.lt_of_lt_of_le ho.1 hn, hc _ _ _ _ (hb _ rfl) ho.1 ho.2⟩ hl
section
variable {P : Program}
theorem pI {g : FuncId} (hg : PutOk P g [.i] false) {F : Keep} {h B : Nat} {m : CM} {n : Int} {K : Value → CM → Prop} {Kp : List PanicEntry → CM → Prop} (hp : Hp F h B m) (hB : B + 1 ≤ lim) (hK : ∀ u m', Hp F h (B + 1) m' → K u m') : callw P g [.pointer (some ⟨h, 0, none⟩), .int .i64 n] m K Kp :=
  hg F h B m [.int .i64 n] 1 K Kp hp (.cons (.i n) .nil) hB hK
theorem pII {g : FuncId} (hg : PutOk P g [.i, .i] true) {F : Keep} {h B : Nat} {m : CM} {a b : Int} {K : Value → CM → Prop} {Kp : List PanicEntry → CM → Prop} (hp : Hp F h B m) (hB : B + 2 ≤ lim) (hK : ∀ u m', Hp F h (B + 2) m' → K u m') : callw P g [.pointer (some ⟨h, 0, none⟩), .agg ⟨[.int .i64 a, .int .i64 b]⟩] m K Kp :=
  hg F h B m [.int .i64 a, .int .i64 b] 2 K Kp hp (.cons (.i a) (.cons (.i b) .nil)) hB hK
/-- A closure that gives a slice (or a thing that is written down by PUT), and its own that writes over it; R: what comes behind. -/
theorem clo_slice {T PUT g : Nat} {tv : CT} (ze : zeroL P T = some [.slice none 0 0]) (sz : szOf P T = some 1) (ag : aggB P T = some false) (hput : PutOk P PUT [tv] false)
    {m0 m1 : CM} {h k : Nat} {v : Value} {W : Nat → Prop} (hoh : Own m0 h [.slice none 0 0, .slice none 0 0] 0) (hle1 : m0.le m1) (h1v : toL v = [v] ∧ (toL v).all one = true)
    (hwt : ∀ m3, m1.le m3 → WT (keepBut m3 h) tv k v) (hk : k ≤ lim) (hW : ∀ x, W x → m0.next ≤ x ∧ x < m1.next)
    (hwipe : ∀ (t : Nat) (M : CM), Own M t [v] 0 → ¬ W t → (∀ x c e o, m0.next ≤ x → x < m1.next → m1.get x = some (.cells c e o) → M.get x = some (.cells c e o)) → m1.next ≤ M.next →
      ∀ (K : Value → CM → Prop) (Kp : List PanicEntry → CM → Prop), (∀ m', m'.next = M.next → (∀ x, ¬ W x → m'.get x = M.get x) → K (.tuple ⟨[]⟩) m') → callw P g [.pointer (some ⟨t, 0, none⟩)] M K Kp)
    {R : Value → CM → Prop} {Kp1 : List PanicEntry → CM → Prop}
    (hR : ∀ (p : Value) (F : Keep) (m4 : CM), Hp F h k m4 → (∀ B m5, Hp F h B m5 → B ≤ lim → CloPost P m0 h (.func (.func g) ⟨[]⟩ ⟨[p]⟩) m5) → R p m4) :
    alw P T m1 (fun t4 m => sop (cstore P T t4 v m) (fun _ m => pop (cload P T t4 m) m (fun t17 m => callw P PUT [.pointer (some ⟨h, 0, none⟩), t17] m (fun _ m => R t4 m) Kp1))) := by
  obtain ⟨e1, e2⟩ := h1v
  have hhm := hoh.1
  have h1n := hle1.1
  refine alw_of ze fun b4 m2 hle2 hb4 ho4 => store_own ho4 (by simp [e1, sz]) (by simp [e1]) e2 fun m3 hn3 hx3 ho3 => ?_
  rw [e1] at ho3
  have h4h : b4 ≠ h := by omega
  have hle13 : m1.le m3 := le_of_put hle2 hb4 hn3 hx3
  have hle3 : m0.le m3 := hle1.trans hle13
  rw [ho3.cel.z ag rfl, pop_some]
  refine hput (keepBut m3 h) h 0 m3 [v] k _ _ (hp_but (hoh.le hle3)) (.cons (k' := 0) (hwt m3 hle13) .nil) (by omega) fun _ m4 hp => hR _ (keepBut m3 h) m4 (by rw [Nat.zero_add] at hp; exact hp) fun B m5 hp hB => ?_
  have h13n := hle13.1
  refine clo_of hoh.1 (fun x hx hne => by rw [keepBut_get (Nat.lt_of_lt_of_le hx hle3.1) hne, hle3.2 x hx]) hp hB (W := W) (fun x hx => ⟨(hW x hx).1, _, keepBut_get (by have := (hW x hx).2; omega) (by have := (hW x hx).1; omega)⟩) rfl fun M hM hc => ?_
  have o5 := own_fw ho3 h4h hp.fw
  have oM : Own M b4 [v] 0 := ⟨by have := o5.1; omega, hc _ _ _ _ (by omega) o5.1 o5.2⟩
  have hkeep : ∀ x, x < m1.next → x ≠ h → m5.get x = m1.get x ∧ x < m5.next := fun x hx hne => by
    obtain ⟨g1, g2⟩ := hp.fw _ _ (keepBut_get (m := m3) (h := h) (x := x) (by omega) hne)
    exact ⟨by rw [g2, hle13.2 x hx], g1⟩
  refine hwipe b4 M oM (fun hw => by have := (hW b4 hw).2; omega) (fun x c e o q1 q2 q3 => ?_) ?_ _ _ fun m' q1 q2 => ⟨by omega, fun x _ hx => q2 x hx⟩
  · obtain ⟨g1, g2⟩ := hkeep x q2 (by omega)
    exact hc x c e o q1 g2 (by rw [g1]; exact q3)
  · by_cases hz : m1.next = 0
    · omega
    · by_cases hz2 : m1.next - 1 = h
      · have := o5.1; omega
      · have := (hkeep (m1.next - 1) (by omega) hz2).2; omega
/-- … of numbers. -/
theorem clo_ints {T PUT g W0 : Nat} (ze : zeroL P T = some [.slice none 0 0]) (sz : szOf P T = some 1) (ag : aggB P T = some false) (hput : PutOk P PUT [.sl [.i]] false)
    {m0 m1 : CM} {h : Nat} {v : Value} (hoh : Own m0 h [.slice none 0 0, .slice none 0 0] 0) (hle1 : m0.le m1) (hv : ResV 1 m0 m1 v)
    (hw : ∀ {t : Nat} {v : Value} {bn : Option Nat} {cs : List Value} {m : CM}, Own m t [v] 0 → HV m v bn cs → cs.length ≤ lim → ∀ {K : Value → CM → Prop} {Kp : List PanicEntry → CM → Prop}, (∀ m', m'.next = m.next → (∀ x, bn ≠ some x → m'.get x = m.get x) → K (.tuple ⟨[]⟩) m') → callw P W0 [.pointer (some ⟨t, 0, none⟩)] m K Kp)
    (hg : ∀ (t : Nat) (M : CM) (K : Value → CM → Prop) (Kp : List PanicEntry → CM → Prop), (∀ {K' : Value → CM → Prop} {Kp' : List PanicEntry → CM → Prop}, (∀ m', K (.tuple ⟨[]⟩) m' → K' (.tuple ⟨[]⟩) m') → callw P W0 [.pointer (some ⟨t, 0, none⟩)] M K' Kp') → callw P g [.pointer (some ⟨t, 0, none⟩)] M K Kp)
    {R : Value → CM → Prop} {Kp1 : List PanicEntry → CM → Prop}
    (hR : ∀ (p : Value) (F : Keep) (B : Nat) (m4 : CM), B ≤ 200 → Hp F h B m4 → (∀ B m5, Hp F h B m5 → B ≤ lim → CloPost P m0 h (.func (.func g) ⟨[]⟩ ⟨[p]⟩) m5) → R p m4) :
    alw P T m1 (fun t4 m => sop (cstore P T t4 v m) (fun _ m => pop (cload P T t4 m) m (fun t17 m => callw P PUT [.pointer (some ⟨h, 0, none⟩), t17] m (fun _ m => R t4 m) Kp1))) := by
  obtain ⟨bn, cs, n, hv, hb, hn6, hi⟩ := hv
  have hhm := hoh.1
  have hl := lm
  have hs : sumN (fun _ => 1) n = n := sumN_one n
  refine clo_slice (W := fun x => bn = some x) (k := 1 + sumN (fun _ => 1) n) (g := g) ze sz ag hput hoh hle1 hv.toL1 (fun m3 hle3 => HVe.wt1 (hv.le hle3) (fun y hy => by have := hb y hy; omega) hi) (by omega) (fun x hx => ⟨hb x hx, hv.lt hx⟩) (fun t M ho hW hc hn K Kp hK => ?_) fun p F m4 hp hf => hR p F _ m4 (by omega) hp hf
  refine hg t M K Kp fun {K' Kp'} hKK => ?_
  have hv' := HVe.to hv hb hc hn
  exact hw ho hv'.hv (by have := hv'.len; omega) fun m' q1 q2 => hKK m' (hK m' q1 q2)
/-- A result that is one struct of numbers, put into a variable of its own. -/
theorem var_agg {T n : Nat} {c z : List Value} (ze : zeroL P T = some z) (sz : szOf P T = some n) (ag : aggB P T = some true) (hc : c.length = n) (hz : z.length = n) (h1 : c.all one = true) {m : CM} {F : Value → CM → Prop} (h : ∀ b m', m.le m' → m.next ≤ b → Own m' b c 0 → F (.pointer (some ⟨b, 0, none⟩)) m') :
    alw P T m (fun t4 m => sop (cstore P T t4 (.agg ⟨c⟩) m) (fun _ m => F t4 m)) := by
  refine alw_of ze fun b4 m2 hle2 hb4 ho4 => store_own ho4 (by simp [toL, sz, hc]) (by simp [toL, hc, hz]) (by simpa [toL] using h1) fun m3 hn3 hx3 ho3 => ?_
  simp only [toL] at ho3
  exact h _ _ (le_of_put hle2 hb4 hn3 hx3) hb4 ho3
end
/-! ### What came in -/
/-- A slice of pairs of numbers ahead. -/
theorem wtlLii {F : Keep} {k : Nat} {l : List Value} {cs : List CT} (h : WTL F (.sl [.i, .i] :: cs) k l) : ∃ v n, ∃ x y : Nat → Int, ∃ k' l', l = v :: l' ∧ SlF F 2 v n (fun j => [.int .i64 (x j), .int .i64 (y j)]) ∧ n ≤ k ∧ WTL F cs k' l' ∧ k' ≤ k := by
  obtain ⟨v, n, row, ks, k', l', h1, h2, h3, h4, h5, h6⟩ := wtlL h
  obtain ⟨x, hx⟩ := chooseF (r := fun (i : Nat) (u : Int × Int) => i < n → row i = [.int .i64 u.1, .int .i64 u.2]) fun i => by
    by_cases hi : i < n
    · obtain ⟨u, _, _, e, t, _⟩ := wtlI (h4 i hi).1
      obtain ⟨w, _, _, e2, t, _⟩ := wtlI t
      exact ⟨⟨u, w⟩, fun _ => by rw [e, e2, wtl0 t]⟩
    · exact ⟨⟨0, 0⟩, fun h => absurd h hi⟩
  exact ⟨v, n, fun i => (x i).1, fun i => (x i).2, k', l', h1, fun m hm => (h2 m hm).congr fun i hi => hx i hi, h3, h5, h6⟩
end Go.Proofs.Ytbgfkbdcpfngaaa
end

section
open Go Go.Proofs Go.Proofs.Ytbgfkbdcpfngaaa
set_option maxRecDepth 100000
namespace Go.Proofs.Ytbgfkbdcpfngaaa.B
abbrev tysB : List CT := [.sl [.s, .i, .i, .i, .i, .i, .sl [.i, .i]], .sl [.i, .i], .i, .i, .i, .i, .sl [.i], .sl [.i, .i], .i, .i, .i]
structure ArgD where
  l : Wxs
  w : WiD
  v : Value
  n : Nat
  x : Nat → Int
  d : LotD
  a : Int
  b : Int
  g : Int
abbrev ArgD.cells (x : ArgD) : List Value := [x.l.v, x.w.v, .int .i64 x.w.a, .int .i64 x.w.b, .int .i64 x.w.c, .int .i64 x.w.d, x.v, x.d.v, .int .i64 x.a, .int .i64 x.b, .int .i64 x.g]
structure ArgD.In (x : ArgD) (m : CM) : Prop where
  l : x.l.In m
  w : x.w.In m
  v : Sl 1 m x.v x.n (fun i => [.int .i64 (x.x i)])
  n0 : x.n < 4611686018427387904
  d : x.d.In m
theorem wax7 {F : Keep} {k : Nat} {l : List Value} (h : WTL F [.s, .i, .i, .i, .i, .i, .sl [.i, .i]] k l) (hk : k ≤ lim) : ∃ w : WxR, l = w.row ∧ ∀ m, FW F m → w.cv.In m := by
  have hl := lim62
  obtain ⟨s, k0, _, rfl, h, b0⟩ := wtlS h
  obtain ⟨p, k1, _, rfl, h, b1⟩ := wtlI h
  obtain ⟨a, k2, _, rfl, h, b2⟩ := wtlI h
  obtain ⟨b, k3, _, rfl, h, b3⟩ := wtlI h
  obtain ⟨c, k4, _, rfl, h, b4⟩ := wtlI h
  obtain ⟨d, k5, _, rfl, h, b5⟩ := wtlI h
  obtain ⟨v, n, x, y, k6, _, rfl, hs, hn, h, b6⟩ := wtlLii h
  rw [wtl0 h]
  exact ⟨⟨s, p, a, b, c, d, ⟨v, n, x, y⟩⟩, rfl, fun m hm => ⟨hs m hm, by show n < _; omega⟩⟩
theorem argOf {F : Keep} {k : Nat} {l : List Value} (h : WTL F tysB k l) (hk : k ≤ lim) : ∃ x : ArgD, l = x.cells ∧ ∀ m, FW F m → x.In m := by
  have hl := lim62
  obtain ⟨vt, nt, rt, kt, k1, _, rfl, st, bt, ht, h, b1⟩ := wtlL h
  obtain ⟨vw, nw, lo, hi, k2, _, rfl, sw, bw, h, b2⟩ := wtlLii h
  obtain ⟨i1, k3, _, rfl, h, b3⟩ := wtlI h
  obtain ⟨i2, k4, _, rfl, h, b4⟩ := wtlI h
  obtain ⟨i3, k5, _, rfl, h, b5⟩ := wtlI h
  obtain ⟨i4, k6, _, rfl, h, b6⟩ := wtlI h
  obtain ⟨vr, nr, xr, k7, _, rfl, sr, br, h, b7⟩ := wtlLi h
  obtain ⟨vd, nd, xa, xb, k8, _, rfl, sd, bd, h, b8⟩ := wtlLii h
  obtain ⟨i5, _, _, rfl, h, _⟩ := wtlI h
  obtain ⟨i6, _, _, rfl, h, _⟩ := wtlI h
  obtain ⟨i7, _, _, rfl, h, _⟩ := wtlI h
  rw [wtl0 h]
  obtain ⟨w, hw⟩ := chooseF (r := fun (i : Nat) (u : WxR) => i < nt → rt i = u.row ∧ ∀ m, FW F m → u.cv.In m) fun i => by
    by_cases hi : i < nt
    · obtain ⟨u, e, hu⟩ := wax7 (ht i hi).1 (by have := (ht i hi).2; omega)
      exact ⟨u, fun _ => ⟨e, hu⟩⟩
    · exact ⟨⟨⟨#[]⟩, 0, 0, 0, 0, 0, ⟨undef, 0, fun _ => 0, fun _ => 0⟩⟩, fun h => absurd h hi⟩
  refine ⟨⟨⟨vt, nt, w⟩, ⟨vw, nw, lo, hi, i1, i2, i3, i4⟩, vr, nr, xr, ⟨vd, nd, xa, xb⟩, i5, i6, i7⟩, rfl, fun m hm => ⟨⟨(st m hm).congr fun i hi => (hw i hi).1, fun i hi => (hw i hi).2 m hm, by show nt < _; omega⟩, ⟨sw m hm, by show nw < _; omega⟩, sr m hm, by show nr < _; omega, ⟨sd m hm, by show nd < _; omega⟩⟩⟩
theorem wipe10 (M : CM) (K : Value → CM → Prop) (Kp : List PanicEntry → CM → Prop) (h : K (.tuple ⟨[]⟩) M) : callw Try.prog 10 [] M K Kp := c10 (by unfold s10; rw [leave0, RK_ret]; exact h)
theorem wipe24 {t : Nat} {v : Value} {bn : Option Nat} {cs : List Value} {m : CM} (ho : Own m t [v] 0) (hv : HV m v bn cs) (hlen : cs.length ≤ lim) {K : Value → CM → Prop} {Kp : List PanicEntry → CM → Prop} (hK : ∀ m', m'.next = m.next → (∀ x, bn ≠ some x → m'.get x = m.get x) → K (.tuple ⟨[]⟩) m') : callw Try.prog 24 [.pointer (some ⟨t, 0, none⟩)] m K Kp := by
  apply c24
  exact wipes_ok Try.underlying28 sz3 ag28 (fun h => c56 h) (fun h => c57 h) ho hv hlen (K := RK K Kp) fun m' h1 h2 => by rw [RK_ret]; exact hK m' h1 h2
section
variable {x : ArgD} {t : Nat} {m : CM}
theorem la0 (h : Own m t x.cells 0) : cload Try.prog 22 (.pointer (some ⟨t, 0, none⟩)) m = some x.l.v := h.cel.z ag22 (j := 0) rfl
theorem la1 (h : Own m t x.cells 0) : cload Try.prog 27 (.pointer (some ⟨t, 1, none⟩)) m = some (.agg ⟨x.w.cells⟩) := h.cel.za ag27 sz27 (j := 1) (by simp)
theorem la2 (h : Own m t x.cells 0) : cload Try.prog 28 (.pointer (some ⟨t, 6, none⟩)) m = some x.v := h.cel.z ag28 (j := 6) rfl
theorem la3 (h : Own m t x.cells 0) : cload Try.prog 29 (.pointer (some ⟨t, 7, none⟩)) m = some x.d.v := h.cel.z ag29 (j := 7) rfl
theorem la4 (h : Own m t x.cells 0) : cload Try.prog 3 (.pointer (some ⟨t, 8, none⟩)) m = some (.int .i64 x.a) := ldi h rfl
theorem la5 (h : Own m t x.cells 0) : cload Try.prog 3 (.pointer (some ⟨t, 9, none⟩)) m = some (.int .i64 x.b) := ldi h rfl
theorem la6 (h : Own m t x.cells 0) : cload Try.prog 3 (.pointer (some ⟨t, 10, none⟩)) m = some (.int .i64 x.g) := ldi h rfl
end
section
variable {k : Nat} {l : List Value}
theorem clo6 (hk : k ≤ lim) : CloOk Try.prog tysB k l 6 := by
  intro F m h t hw hf hFh ho hth hoh
  obtain ⟨x, rfl, hin⟩ := argOf hw hk
  have hd := hin m hf
  have hl := lm
  apply c6
  unfold s6
  simp only [fz31_0, pop_some, la0 ho]
  refine check7 hd.l fun p a e m1 hle1 _ => ?_
  simp only [cext, List.getElem?_cons_zero, List.getElem?_cons_succ, pop_some]
  refine pI put8 (hp_but (hoh.le hle1)) (by omega) fun _ m2 hp => pI put8 hp (by omega) fun _ m3 hp => pI put9 hp (by omega) fun _ m4 hp => ?_
  rw [leave1, RK_ret]
  exact clo_nothing hoh hle1 hp (by omega) wipe10
theorem clo11 (hk : k ≤ lim) : CloOk Try.prog tysB k l 11 := by
  intro F m h t hw hf hFh ho hth hoh
  obtain ⟨x, rfl, hin⟩ := argOf hw hk
  have hd := hin m hf
  have hl := lm
  apply c11
  unfold s11
  simp only [fz31_0, fz31_4, fz31_5, pop_some, la0 ho, la4 ho, la5 ho]
  refine Raise12 hd.l fun m1 a e hle1 => ?_
  simp only [cext, List.getElem?_cons_zero, List.getElem?_cons_succ, pop_some]
  refine pI put8 (hp_but (hoh.le hle1)) (by omega) fun _ m2 hp => pI put9 hp (by omega) fun _ m4 hp => ?_
  rw [leave1, RK_ret]
  exact clo_nothing hoh hle1 hp (by omega) wipe10
theorem clo13 (hk : k ≤ lim) : CloOk Try.prog tysB k l 13 := by
  intro F m h t hw hf hFh ho hth hoh
  obtain ⟨x, rfl, hin⟩ := argOf hw hk
  have hd := hin m hf
  have hl := lm
  apply c13
  unfold s13
  simp only [fz31_0, fz31_2, pop_some, la0 ho, la2 ho]
  refine Value14 hd.l hd.v hd.n0 fun m1 a b c d p e hle1 => ?_
  simp only [cext, List.getElem?_cons_zero, List.getElem?_cons_succ, pop_some]
  refine alw_of ze25 fun t4 m2 hle2 hb4 ho4 => alw_of ze25 fun t5 m3 hle3 hb5 ho5 => ?_
  have h41 := ho4.1
  have ho4' := ho4.le hle3
  refine store_own ho4' (by simp [toL, sz25]) (by simp [toL]) rfl fun m4 hn4 hx4 ho4 => store_own (ho5.sub hn4 (hx4 _ (by omega))) (by simp [toL, sz25]) (by simp [toL]) rfl fun m5 hn5 hx5 ho5 => ?_
  simp only [toL] at ho4 ho5
  replace ho4 := ho4.sub hn5 (hx5 _ (by omega))
  have a1 := hle1.1; have a2 := hle2.1; have a3 := hle3.1
  have hle5 : m.le m5 := le_of_put (le_of_put ((hle1.trans hle2).trans hle3) (by omega) hn4 hx4) (by omega) hn5 hx5
  rw [lda ho4 ag25 sz25, pop_some]
  refine pII put15 (hp_but (hoh.le hle5)) (by omega) fun _ m6 hp => ?_
  have hhm := hoh.1
  rw [lda (own_fw ho5 (by omega) hp.fw) ag25 sz25, pop_some]
  refine pII put15 hp (by omega) fun _ m7 hp => pI put8 hp (by omega) fun _ m8 hp => pI put9 hp (by omega) fun _ m9 hp => ?_
  rw [leave1, RK_ret]
  exact clo_nothing hoh hle5 hp (by omega) wipe10
theorem clo16 (hk : k ≤ lim) : CloOk Try.prog tysB k l 16 := by
  intro F m h t hw hf hFh ho hth hoh
  obtain ⟨x, rfl, hin⟩ := argOf hw hk
  have hd := hin m hf
  have hl := lm
  apply c16
  unfold s16
  simp only [fz31_0, fz31_2, fz31_3, pop_some, la0 ho, la2 ho, la3 ho]
  refine Made17 hd.l hd.d hd.v hd.n0 fun m1 a b e hle1 => ?_
  simp only [cext, List.getElem?_cons_zero, List.getElem?_cons_succ, pop_some]
  refine pI put8 (hp_but (hoh.le hle1)) (by omega) fun _ m2 hp => pI put8 hp (by omega) fun _ m3 hp => pI put9 hp (by omega) fun _ m4 hp => ?_
  rw [leave1, RK_ret]
  exact clo_nothing hoh hle1 hp (by omega) wipe10
theorem clo18 (hk : k ≤ lim) : CloOk Try.prog tysB k l 18 := by
  intro F m h t hw hf hFh ho hth hoh
  obtain ⟨x, rfl, hin⟩ := argOf hw hk
  have hd := hin m hf
  have hl := lm
  apply c18
  unfold s18
  simp only [fz31_0, fz31_1, fz31_2, pop_some, la0 ho, la1 ho, la2 ho]
  refine Fits19 hd.l hd.w hd.v hd.n0 fun m1 a e hle1 => ?_
  simp only [cext, List.getElem?_cons_zero, List.getElem?_cons_succ, pop_some]
  refine pI put8 (hp_but (hoh.le hle1)) (by omega) fun _ m2 hp => pI put9 hp (by omega) fun _ m4 hp => ?_
  rw [leave1, RK_ret]
  exact clo_nothing hoh hle1 hp (by omega) wipe10
theorem clo20 (hk : k ≤ lim) : CloOk Try.prog tysB k l 20 := by
  intro F m h t hw hf hFh ho hth hoh
  obtain ⟨x, rfl, hin⟩ := argOf hw hk
  have hd := hin m hf
  have hl := lm
  apply c20
  unfold s20
  simp only [fz31_0, fz31_1, pop_some, la0 ho, la1 ho]
  refine Cheapest21 hd.l hd.w fun m1 v p e hle1 hv => ?_
  simp only [cext, List.getElem?_cons_zero, List.getElem?_cons_succ, pop_some]
  refine clo_ints (g := 23) ze28 sz28 ag28 put22 hoh hle1 hv (fun ho hv hl K Kp hK => wipe24 ho hv hl hK) (fun t M K Kp hg => ?_) fun p F B m4 hB hp hf => pI put8 hp (by omega) fun _ m5 hp => pI put9 hp (by omega) fun _ m6 hp => ?_
  · apply c23
    unfold s23
    exact hg fun m' h => by rw [leave0, RK_ret]; exact h
  · rw [leave1, RK_ret]
    exact hf _ _ hp (by omega)
theorem clo25 (hk : k ≤ lim) : CloOk Try.prog tysB k l 25 := by
  intro F m h t hw hf hFh ho hth hoh
  obtain ⟨x, rfl, hin⟩ := argOf hw hk
  have hd := hin m hf
  have hl := lm
  apply c25
  unfold s25
  simp only [fz31_0, fz31_1, fz31_2, fz31_4, pop_some, la0 ho, la1 ho, la2 ho, la4 ho]
  refine Stays26 hd.l hd.w hd.v hd.n0 fun m1 a b e hle1 => ?_
  simp only [cext, List.getElem?_cons_zero, List.getElem?_cons_succ, pop_some]
  refine var_agg ze25 sz25 ag25 rfl rfl rfl fun b4 m2 hle2 hb4 ho4 => ?_
  have hle := hle1.trans hle2
  rw [lda ho4 ag25 sz25, pop_some]
  refine pII put15 (hp_but (hoh.le hle)) (by omega) fun _ m6 hp => pI put9 hp (by omega) fun _ m4 hp => ?_
  rw [leave1, RK_ret]
  exact clo_nothing hoh hle hp (by omega) wipe10
theorem clo27 (hk : k ≤ lim) : CloOk Try.prog tysB k l 27 := by
  intro F m h t hw hf hFh ho hth hoh
  obtain ⟨x, rfl, hin⟩ := argOf hw hk
  have hd := hin m hf
  have hl := lm
  apply c27
  unfold s27
  simp only [fz31_0, fz31_2, fz31_6, pop_some, la0 ho, la2 ho, la6 ho]
  refine Weigh28 hd.l hd.v hd.n0 fun m1 v e hle1 hv => ?_
  simp only [cext, List.getElem?_cons_zero, List.getElem?_cons_succ, pop_some]
  refine clo_ints (g := 29) ze28 sz28 ag28 put22 hoh hle1 hv (fun ho hv hl K Kp hK => wipe24 ho hv hl hK) (fun t M K Kp hg => ?_) fun p F B m4 hB hp hf => pI put9 hp (by omega) fun _ m6 hp => ?_
  · apply c29
    unfold s29
    exact hg fun m' h => by rw [leave0, RK_ret]; exact h
  · rw [leave1, RK_ret]
    exact hf _ _ hp (by omega)
end
end Go.Proofs.Ytbgfkbdcpfngaaa.B
end
