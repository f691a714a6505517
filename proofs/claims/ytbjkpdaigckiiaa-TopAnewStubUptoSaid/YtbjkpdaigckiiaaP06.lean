/- Part 6 of 23 of the proof that the law TopAnewStub returns true and leaves its argument as it read before, for every input that the bounded statement admits (what it reads is of bulk at most 1048576). -/
import Derived.Test.YtbjkpdaigckiiaaP05
section
namespace Go.Proofs.Ytbjkpdaigckiiaa
open Go
/-! ### The first thing with an error -/
theorem elv_toL {a : Bool} {e : Nat} {r : List Value} (he : a = false → e = 1) (hr : r.length = e) (h1 : r.all one = true) : toL (elv a r) = r ∧ (toL (elv a r)).all one = true := by
  cases a with
  | true => exact ⟨rfl, h1⟩
  | false =>
    have := he rfl
    subst this
    match r, hr with
    | [x], _ =>
      have hx : one x = true := by simpa using h1
      have : toL (elv false [x]) = [x] := toL_one hx
      exact ⟨this, by rw [this]; exact h1⟩
section
variable {P : Program} {I T E Er : TypeId}
def sFirst (P : Program) (I T E Er : TypeId) (R : CE → CM → Prop) (a0 a1 : Value) (m : CM) : Prop :=
  pop (clen P T a0 m) m (fun t9 m => loopA [1, 4, 5, 8, 9, 10] (fun X1 ρ1 ds m => pop (cbin P BinOp.lss I (Operand.tmp 10) (Operand.tmp 9) (ρ1 10) (ρ1 9)) m (fun t11 m => cnd t11 (pop (cia P T (ρ1 8) (ρ1 10)) m (fun t13 m => pop (cload P E t13 m) m (fun t14 m => alw P E m (fun t7 m => sop (cstore P E t7 t14 m) (fun _ m => pop (cload P E t7 m) m (fun t17 m => callv P (ρ1 1) [(ρ1 10), t17] m (fun t18 m => pop (cbin P BinOp.neq Er (Operand.tmp 19) (Operand.const (Value.int IntKind.i64 0)) t18 (.int .i64 0)) m (fun t20 m => cnd t20 (leaveV P [.v (ρ1 10), .v t18] ds .ret m R) (pop (cbin P BinOp.add I (Operand.tmp 10) (Operand.const (Value.int IntKind.i64 1)) (ρ1 10) (.int .i64 1)) m (fun t23 m => X1 [(ρ1 1), (ρ1 4), t18, (ρ1 8), (ρ1 9), t23] ds m)))) (fun ch m => leaveV P [.v (ρ1 4), .v (ρ1 5)] ds (.pan ch) m R))))))) (leaveV P [.v (.int .i64 0), .v (.int .i64 0)] ds .ret m R))) [a1, (.int .i64 0), (.int .i64 0), a0, t9, (.int .i64 0)] [] m)
/-- I i holds before the i-th thing; J e when the error e was found. -/
theorem first_ok {g : FuncId} (hc : ∀ {a0 a1 : Value} {m : CM} {K : Value → CM → Prop} {Kp : List PanicEntry → CM → Prop}, sFirst P I T E Er (RK K Kp) a0 a1 m → callw P g [a0, a1] m K Kp)
    {e : Nat} {a : Bool} {z : List Value} (un : P.underlying T = some (.slice E)) (sz : szOf P E = some e) (ag : aggB P E = some a) (he : a = false → e = 1) (ze : zeroL P E = some z) (hz : z.length = e)
    {m : CM} {v f : Value} {n : Nat} {row : Nat → List Value} {Inv : Nat → CM → Prop} {J : Int → CM → Prop} (hn : n < 4611686018427387904) (h1 : ∀ i, i < n → (row i).all one = true)
    (hs : ∀ i m', Inv i m' → Sl e m' v n row) (hI : ∀ i m' m2, Inv i m' → m'.le m2 → Inv i m2)
    (hf : ∀ (i : Nat) (m' : CM) (K : Value → CM → Prop) (Kp : List PanicEntry → CM → Prop), i < n → Inv i m' → (∀ m2 (c : Int), (c = 0 → Inv (i + 1) m2) → (c ≠ 0 → J c m2) → K (.int .i64 c) m2) → callv P f [.int .i64 i, elv a (row i)] m' K Kp)
    (h0 : Inv 0 m) {K : Value → CM → Prop} {Kp : List PanicEntry → CM → Prop} (hK : ∀ m' (x c : Int), (c = 0 → Inv n m') → (c ≠ 0 → J c m') → K (.tuple ⟨[.int .i64 x, .int .i64 c]⟩) m') : callw P g [v, f] m K Kp := by
  refine hc ?_
  unfold sFirst
  simp only [(hs _ _ h0).len un, pop_some]
  refine loopA_of (fun l ds m' => ds = [] ∧ ∃ i : Nat, ∃ c : Value, i ≤ n ∧ Inv i m' ∧ l = [f, .int .i64 0, c, v, .int .i64 n, .int .i64 i])
    (fun l _ => match l with | [_, _, _, _, _, .int _ i] => n - i.toNat | _ => 0) ⟨rfl, 0, _, by omega, h0, rfl⟩ ?_
  rintro X ρ ds m' ⟨rfl, i, c, hi, hIm, hl⟩ hX
  simp only [List.map_cons, List.map_nil, List.cons.injEq, and_true] at hl
  obtain ⟨q1, q4, q5, q8, q9, q10⟩ := hl
  simp only [q1, q4, q5, q8, q9, q10, cb_lss, pop_some]
  by_cases hci : i < n
  · have hc' : decide ((i : Int) < (n : Int)) = true := by simpa using hci
    obtain ⟨b, o, hia, hcel, hlen⟩ := (hs _ _ hIm).at un sz (i := i) (by omega) (by omega)
    simp only [Int.toNat_natCast] at hcel hlen
    rw [hc', cnd_true, hia, pop_some, hcel.elv ag sz hlen he, pop_some]
    obtain ⟨e1, e2⟩ := elv_toL he hlen (h1 i hci)
    refine alw_of ze fun b7 m1 hle1 hb7 ho7 => ?_
    refine ho7.store (by rw [e1, hlen]; exact sz) (by rw [e1]; omega) e2 fun m2 hn2 hx2 ho2 => ?_
    rw [e1] at ho2
    have hsp : splice z 0 (row i) = row i := by
      have hd : z.drop (row i).length = [] := List.drop_eq_nil_of_le (by omega)
      simp [splice, hd]
    rw [hsp] at ho2
    have hle2 := le_of_put hle1 hb7 hn2 hx2
    have hld : cload P E (.pointer (some ⟨b7, 0, none⟩)) m2 = some (elv a (row i)) := ho2.cel.elv ag sz hlen he
    rw [hld, pop_some]
    refine hf i m2 _ _ hci (hI _ _ _ hIm hle2) fun m3 c3 g0 g1 => ?_
    rw [cb_neq, pop_some]
    cases hcc : (c3 != 0) with
    | true =>
      have hne : c3 ≠ 0 := by simpa using hcc
      rw [cnd_true, leave2, RK_ret]
      exact hK _ _ _ (fun h => absurd h hne) g1
    | false =>
      have he0 : c3 = 0 := by simpa using hcc
      rw [cnd_false, cb_add, pop_some, wrap_id (by omega) (by omega)]
      refine hX _ _ _ ⟨rfl, i + 1, .int .i64 c3, by omega, g0 he0, by simp⟩ ?_
      simp only [List.map_cons, List.map_nil, q10]; omega
  · have hc' : decide ((i : Int) < (n : Int)) = false := by simpa using hci
    rw [hc', cnd_false, leave2, RK_ret]
    have : i = n := by omega
    subst this
    exact hK _ _ _ (fun _ => hIm) (fun h => absurd rfl h)
end
end Go.Proofs.Ytbjkpdaigckiiaa
end

section
namespace Go.Proofs.Ytbjkpdaigckiiaa
open Go
/-! ### What a closure leaves, and how it is written over -/
theorem clo_of {P : Program} {F : Keep} {m m1 : CM} {h B : Nat} (hh : h < m.next) (hF : ∀ x, x < m.next → x ≠ h → F x = some (m.get x)) (hp : Hp F h B m1) (hB : B ≤ lim) {W : Nat → Prop} (hW : ∀ x, W x → m.next ≤ x ∧ ∃ y, F x = some y) {v : Value} {g2 : FuncId} {cs2 : List Value} (hv : v = .func (.func g2) ⟨[]⟩ ⟨cs2⟩)
    (hwipe : ∀ M : CM, m1.next = M.next → (∀ x c e o, m.next ≤ x → x < m1.next → m1.get x = some (.cells c e o) → M.get x = some (.cells c e o)) →
      callw P g2 cs2 M (fun _ M2 => M.next ≤ M2.next ∧ ∀ x, x < M.next → ¬ W x → M2.get x = M.get x) (fun _ _ => False)) : CloPost P m h v m1 := by
  obtain ⟨vn, vs, bn, bs, cn, cs, h1, h2, h3, h4, h5, h6, h7, h8⟩ := hp.ex
  have hn : m.next ≤ m1.next := by
    by_cases e : m.next - 1 = h
    · have := h3.1; omega
    · have := (h8 _ _ (hF (m.next - 1) (by omega) e)).1.1; omega
  refine ⟨vn, vs, bn, bs, cn, cs, W, g2, cs2, h1, h2, h3, ⟨by omega, by omega⟩, h6, h7, ⟨hn, fun x hx hne => (h8 _ _ (hF x hx hne)).1.2⟩, fun y hy => ⟨?_, fun hw => ?_⟩, fun y hy => ⟨?_, fun hw => ?_⟩, fun x hx => (hW x hx).1, hv, hwipe⟩
  · apply Nat.le_of_not_lt; intro hlt
    by_cases e : y = h
    · subst e; exact h4.1 hy
    · exact (h8 _ _ (hF y hlt e)).2.2.1 hy
  · obtain ⟨_, z, hz⟩ := hW y hw
    exact (h8 _ _ hz).2.2.1 hy
  · apply Nat.le_of_not_lt; intro hlt
    by_cases e : y = h
    · subst e; exact h4.2.1 hy
    · exact (h8 _ _ (hF y hlt e)).2.2.2 hy
  · obtain ⟨_, z, hz⟩ := hW y hw
    exact (h8 _ _ hz).2.2.2 hy
theorem fw_keepBut (m : CM) (h : Nat) : FW (keepBut m h) m := fun x y hx => by
  unfold keepBut at hx
  split at hx
  · rename_i e; cases hx; exact ⟨e.1, rfl⟩
  · cases hx
theorem keepBut_get {m : CM} {h x : Nat} (hx : x < m.next) (hne : x ≠ h) : keepBut m h x = some (m.get x) := by unfold keepBut; rw [if_pos ⟨hx, hne⟩]
/-- The heap is empty still. -/
theorem hp_but {m : CM} {h : Nat} (ho : Own m h [.slice none 0 0, .slice none 0 0] 0) : Hp (keepBut m h) h 0 m :=
  hp_init (fw_keepBut m h) (fun y hy => by unfold keepBut at hy; rw [if_neg (by omega)] at hy; cases hy) ho
/-- A closure that has nothing to write over. -/
theorem clo_nothing {P : Program} {m m' m1 : CM} {h B : Nat} (ho : Own m h [.slice none 0 0, .slice none 0 0] 0) (hle : m.le m') (hp : Hp (keepBut m' h) h B m1) (hB : B ≤ lim) {g2 : FuncId} (hwipe : ∀ (M : CM) (K : Value → CM → Prop) (Kp : List PanicEntry → CM → Prop), K (.tuple ⟨[]⟩) M → callw P g2 [] M K Kp) : CloPost P m h (.func (.func g2) ⟨[]⟩ ⟨[]⟩) m1 :=
  clo_of ho.1 (fun x hx hne => by rw [keepBut_get (Nat.lt_of_lt_of_le hx hle.1) hne, hle.2 x hx]) hp hB (W := fun _ => False) (fun x hx => hx.elim) rfl fun M hM hc => hwipe M _ _ ⟨Nat.le_refl _, fun _ _ _ => rfl⟩
theorem sumN_one (n : Nat) : sumN (fun _ => 1) n = n := by induction n with
  | zero => rfl
  | succ n ih => simp only [sumN, ih]
theorem HV.wt {m : CM} {h : Nat} {v : Value} {bn : Option Nat} {cs : List Value} (hv : HV m v bn cs) (hb : ∀ y, bn = some y → y ≠ h) {t : CT} (hc : ∀ u ∈ cs, WT (keepBut m h) t 1 u) : WTL (keepBut m h) [.sl [t]] (1 + cs.length) [v] := by
  refine .cons (k' := 0) ?_ .nil
  rw [← sumN_one cs.length]
  refine .sl (row := fun i => [cs.getD i undef]) (fun M hM => ?_) (by simp) fun i hi => ?_
  · cases hv with
    | nil => exact HV.sl .nil
    | blk ho => exact HV.sl (.blk ⟨(hM _ _ (keepBut_get ho.1 (hb _ rfl))).1, by rw [(hM _ _ (keepBut_get ho.1 (hb _ rfl))).2]; exact ho.2⟩)
  · refine .cons (k' := 0) (hc _ ?_) .nil
    rw [List.getD_eq_getElem?_getD, List.getElem?_eq_getElem hi]
    exact List.getElem_mem hi
section
variable {P : Program} {I T : TypeId}
def sEach (P : Program) (I T : TypeId) (R : CE → CM → Prop) (a0 a1 : Value) (m : CM) : Prop :=
  loopA [0, 1, 4] (fun X1 ρ1 ds m => pop (clen P T (ρ1 0) m) m (fun t7 m => pop (cbin P BinOp.lss I (Operand.tmp 5) (Operand.tmp 7) (ρ1 4) t7) m (fun t8 m => cnd t8 (pop (cia P T (ρ1 0) (ρ1 4)) m (fun t14 m => callv P (ρ1 1) [t14] m (fun _ m => pop (cbin P BinOp.add I (Operand.tmp 9) (Operand.const (Value.int IntKind.i64 1)) (ρ1 4) (.int .i64 1)) m (fun t10 m => X1 [(ρ1 0), (ρ1 1), t10] ds m)) (fun ch m => leaveV P [] ds (.pan ch) m R))) (leaveV P [] ds .ret m R)))) [a0, a1, (.int .i64 0)] [] m
def sWipe1 (P : Program) (I : TypeId) (n : Int) (R : CE → CM → Prop) (a0 : Value) (m : CM) : Prop :=
  pop (cnilc a0) m (fun t3 m => sop (cstore P I t3 (.int .i64 n) m) (fun _ m => leaveV P [] [] .ret m R))
def sWipes (P : Program) (T : TypeId) (g g1 : FuncId) (R : CE → CM → Prop) (a0 : Value) (m : CM) : Prop :=
  pop (cnilc a0) m (fun t3 m => pop (cload P T t3 m) m (fun t4 m => callw P g [t4, (.func (.func g1) ⟨[]⟩ ⟨[]⟩)] m (fun _ m => leaveV P [] [] .ret m R) (fun ch m => R (.pan ch) m)))
theorem splice_at {c : List Value} {i : Nat} (hi : i < c.length) (x : Value) : (splice c i [x]).length = c.length := by simp [splice]; omega
/-- Writing over a slice of numbers. -/
theorem wipes_ok (un : P.underlying T = some (.slice I)) (sz : szOf P I = some 1) (agT : aggB P T = some false) {n : Int} {g g1 : FuncId}
    (c1 : ∀ {a0 a1 : Value} {m : CM} {K : Value → CM → Prop} {Kp : List PanicEntry → CM → Prop}, sEach P I T (RK K Kp) a0 a1 m → callw P g [a0, a1] m K Kp)
    (c2 : ∀ {a0 : Value} {m : CM} {K : Value → CM → Prop} {Kp : List PanicEntry → CM → Prop}, sWipe1 P I n (RK K Kp) a0 m → callw P g1 [a0] m K Kp)
    {t : Nat} {v : Value} {bn : Option Nat} {cs : List Value} {m : CM} (ho : Own m t [v] 0) (hv : HV m v bn cs) (hlen : cs.length ≤ lim) {K : CE → CM → Prop} (hK : ∀ m', m'.next = m.next → (∀ x, bn ≠ some x → m'.get x = m.get x) → K (.ret (.tuple ⟨[]⟩)) m') :
    sWipes P T g g1 K (.pointer (some ⟨t, 0, none⟩)) m := by
  unfold sWipes
  simp only [cnilc, pop_some]
  rw [ho.cel.z agT rfl, pop_some]
  refine c1 ?_
  unfold sEach
  have hll : lim < 4611686018427387904 := by decide
  refine loopA_of (fun l ds m' => ds = [] ∧ ∃ (i : Nat) (cs' : List Value), i ≤ cs.length ∧ m'.next = m.next ∧ (∀ x, bn ≠ some x → m'.get x = m.get x) ∧ cs'.length = cs.length ∧ HV m' v bn cs' ∧ l = [v, .func (.func g1) ⟨[]⟩ ⟨[]⟩, .int .i64 i])
    (fun l _ => match l with | [_, _, .int _ i] => cs.length - i.toNat | _ => 0) ⟨rfl, 0, cs, by omega, rfl, fun _ _ => rfl, rfl, hv, rfl⟩ ?_
  rintro X ρ ds m' ⟨rfl, i, cs', hi, hn, hx, hl', hv', hl⟩ hX
  simp only [List.map_cons, List.map_nil, List.cons.injEq, and_true] at hl
  obtain ⟨h0, h1, h4⟩ := hl
  simp only [h0, h1, h4, hv'.sl.len un, pop_some, cb_lss]
  by_cases hc : i < cs.length
  · have hc' : decide ((i : Int) < (cs'.length : Int)) = true := by simpa [hl'] using hc
    rw [hc', cnd_true]
    cases hv' with
    | nil => simp at hl'; omega
    | blk ho' =>
    rename_i b
    have hia : cia P T (.slice (some ⟨b, 0, none⟩) cs'.length 0) (.int .i64 i) = some (.pointer (some ⟨b, i, none⟩)) := by
      have h : ((i : Int).toNat < cs'.length) := by omega
      simp [cia, un, sz]
      omega
    rw [hia, pop_some]
    show callw P g1 ([] ++ [_] ++ []) m' _ _
    refine c2 ?_
    unfold sWipe1
    simp only [cnilc, pop_some]
    refine ho'.store (by simp [toL, sz]) (by simp [toL]; omega) rfl fun m2 hn2 hx2 ho2 => ?_
    rw [leave0, RK_ret, cb_add, pop_some, wrap_id (by omega) (by omega)]
    have hls : (splice cs' i (toL (.int .i64 n))).length = cs'.length := splice_at (by omega) _
    refine hX _ _ _ ⟨rfl, i + 1, splice cs' i (toL (.int .i64 n)), by omega, by omega, fun x hne => ?_, by omega, ?_, by simp⟩ ?_
    · rw [hx2 x (fun e => hne (by rw [e])), hx x hne]
    · have h3 := HV.blk ho2
      rw [hls] at h3
      exact h3
    · simp only [List.map_cons, List.map_nil, h4]; omega
  · have hc' : decide ((i : Int) < (cs'.length : Int)) = false := by simpa [hl'] using hc
    rw [hc', cnd_false, leave0, RK_ret, leave0]
    exact hK _ hn hx
end
end Go.Proofs.Ytbjkpdaigckiiaa
end

section
namespace Go.Proofs.Ytbjkpdaigckiiaa
open Go
/-! ### Slices of rows that are the call's own: append, how they are typed -/
/-- A slice of n rows of e cells: nil, or all of a block of its own. -/
inductive HVe (e : Nat) (m : CM) : Value → Option Nat → List Value → Nat → Prop where
  | nil : HVe e m (.slice none 0 0) none [] 0
  | blk {b n : Nat} {c : List Value} (h : Own m b c e) (hl : c.length = n * e) : HVe e m (.slice (some ⟨b, 0, none⟩) n 0) (some b) c n
section
variable {e : Nat} {m m' : CM} {v : Value} {b : Option Nat} {c : List Value} {n : Nat}
theorem HVe.of_get (h : HVe e m v b c n) (hn : m.next ≤ m'.next) (hg : ∀ y, b = some y → m'.get y = m.get y) : HVe e m' v b c n := by
  cases h with
  | nil => exact .nil
  | blk h hl => exact .blk ⟨Nat.lt_of_lt_of_le h.1 hn, by rw [hg _ rfl]; exact h.2⟩ hl
theorem HVe.lt (h : HVe e m v b c n) {y : Nat} (q : b = some y) : y < m.next := by
  cases h with
  | nil => cases q
  | blk h => cases q; exact h.1
theorem HVe.le (h : HVe e m v b c n) (k : m.le m') : HVe e m' v b c n := h.of_get k.1 fun y hy => k.2 y (h.lt hy)
theorem HVe.len (h : HVe e m v b c n) : c.length = n * e := by
  cases h with
  | nil => simp
  | blk _ hl => exact hl
theorem HVe.toL1 (h : HVe e m v b c n) : toL v = [v] ∧ (toL v).all one = true := by cases h <;> exact ⟨rfl, rfl⟩
theorem HVe.hv (h : HVe 1 m v b c n) : HV m v b c := by
  cases h with
  | nil => exact .nil
  | blk h hl =>
    have : c.length = n := by omega
    subst this
    exact .blk h
def rowE (e : Nat) (c : List Value) (i : Nat) : List Value := (c.drop (i * e)).take e
theorem rowE_len {e : Nat} {c : List Value} {n i : Nat} (h : c.length = n * e) (hi : i < n) : (rowE e c i).length = e := by
  have : (i + 1) * e ≤ n * e := Nat.mul_le_mul_right e hi
  rw [Nat.add_mul, Nat.one_mul] at this
  simp [rowE]; omega
theorem HVe.sl (h : HVe e m v b c n) : Sl e m v n (rowE e c) := by
  cases h with
  | nil => exact .inl ⟨rfl, rfl⟩
  | blk ho hl =>
    refine .inr (.inl ⟨_, 0, 0, c, true, rfl, ho.1, ho.2, fun i hi => ⟨rowE_len hl hi, fun j hj => ?_⟩⟩)
    simp only [rowE, List.getElem?_take, hj, if_true, List.getElem?_drop, Nat.zero_add]
theorem rowE_app_left {e : Nat} {c d : List Value} {n i : Nat} (h : c.length = n * e) (hi : i < n) : rowE e (c ++ d) i = rowE e c i := by
  have : (i + 1) * e ≤ n * e := Nat.mul_le_mul_right e hi
  rw [Nat.add_mul, Nat.one_mul] at this
  simp only [rowE]
  rw [List.drop_append, List.take_append_of_le_length (by simp; omega)]
theorem rowE_app_right {e : Nat} {c d : List Value} {n : Nat} (h : c.length = n * e) (hd : d.length = e) : rowE e (c ++ d) n = d := by
  simp only [rowE]
  rw [← h, List.drop_left, ← hd, List.take_length]
/-- Kept by all that keeps a memory but for one block. -/
theorem HVe.slF {h : Nat} (hv : HVe e m v b c n) (hb : ∀ y, b = some y → y ≠ h) : SlF (keepBut m h) e v n (rowE e c) := fun M hM => by
  cases hv with
  | nil => exact HVe.sl .nil
  | blk ho hl => exact HVe.sl (.blk ⟨(hM _ _ (keepBut_get ho.1 (hb _ rfl))).1, by rw [(hM _ _ (keepBut_get ho.1 (hb _ rfl))).2]; exact ho.2⟩ hl)
theorem HVe.wt {h : Nat} (hv : HVe e m v b c n) (hb : ∀ y, b = some y → y ≠ h) {tys : List CT} (ht : tys.length = e) (he : 0 < e) {ks : Nat → Nat} (hr : ∀ i, i < n → WTL (keepBut m h) tys (ks i) (rowE e c i)) : WT (keepBut m h) (.sl tys) (1 + sumN ks n) v :=
  .sl (row := rowE e c) (by rw [ht]; exact hv.slF hb) (by omega) hr
end
section
variable {P : Program} {T E : TypeId} {m M : CM} {K : Value → CM → Prop}
/-- Append, whatever lies behind. -/
theorem appG {e : Nat} {z : List Value} {by' : Nat} (un : P.underlying T = some (.slice E)) (sz : szOf P E = some (e + 1)) (ze : zeroL P E = some z) (hz : z.length = e + 1) (ha : appArg P T = true) (hby : bytesOf' P E = by') (h0 : 0 < by') (h64 : by' ≤ 64)
    {v x : Value} {bn : Option Nat} {cs vs : List Value} {n k : Nat} (hv : HVe (e + 1) M v bn cs n) (hl : lenV x = some k) (hr : readS M x (e + 1) k = some vs) (hvl : vs.length = k * (e + 1)) (h1 : vs.all one = true) (hk : 0 < k) (hB : n + k ≤ lim)
    (hK : ∀ m', m'.next = M.next + 1 → (∀ y, y < M.next → bn ≠ some y → m'.get y = M.get y) → Own m' M.next (cs ++ vs) (e + 1) → K (.slice (some ⟨M.next, 0, none⟩) (n + k) 0) m') : vop (cappend P [T, T] v x M) K := by
  have hl' : (2 * (n + k) + 1024) * by' ≤ 2 ^ 48 := by
    have : (2 * (n + k) + 1024) * by' ≤ (2 * lim + 1024) * 64 := Nat.mul_le_mul (by omega) h64
    exact Nat.le_trans this (by decide)
  cases hv with
  | nil =>
    have hc : cappend P [T, T] (.slice none 0 0) x M = some (.slice (some ⟨M.next, 0, none⟩) k 0, M.alloc (.cells vs (e + 1) true)) := by
      simp only [cappend, un, ha, if_true, sz, ze, hl, hr, hvl, hz, h1, and_self, hby]
      rw [if_neg (by omega), if_pos ⟨by rw [Nat.zero_add] at hl'; exact hl', h0⟩]
    refine ⟨_, _, hc, ?_⟩
    have := hK (M.alloc (.cells vs (e + 1) true)) (by simp) (fun y hy _ => by rw [CM.get_alloc, if_neg (by omega)]) ⟨by simp, by rw [CM.get_alloc, if_pos rfl]; rfl⟩
    rwa [Nat.zero_add] at this
  | blk ho hln =>
    rename_i b
    have hb := ho.1
    have hc : cappend P [T, T] (.slice (some ⟨b, 0, none⟩) n 0) x M = some (.slice (some ⟨M.next, 0, none⟩) (n + k) 0, (M.set b none).alloc (.cells (cs ++ vs) (e + 1) true)) := by
      simp only [cappend, un, ha, if_true, sz, ze, hl, hr, hvl, hz, h1, and_self, hby, ho.2, hln]
      rw [if_pos ⟨trivial, hl', h0⟩]
    refine ⟨_, _, hc, hK _ (by simp) (fun y hy hn => ?_) ⟨by simp, by rw [CM.get_alloc, if_pos (by simp)]⟩⟩
    rw [CM.get_alloc, if_neg (by simp; omega), CM.get_set, if_neg (fun e => hn (by rw [e]))]
/-- One row put behind, where the append looks at a view of the memory. -/
theorem appJ {e : Nat} (h24 : e + 1 ≤ 16777216) {z : List Value} {by' : Nat} (un : P.underlying T = some (.slice E)) (sz : szOf P E = some (e + 1)) (ze : zeroL P E = some z) (hz : z.length = e + 1) (ha : appArg P T = true) (hby : bytesOf' P E = by') (h0 : 0 < by') (h64 : by' ≤ 64)
    {v x : Value} {bn : Option Nat} {cs : List Value} {n : Nat} (hv : HVe (e + 1) m v bn cs n) (hx : (toL x).length = e + 1) (h1 : (toL x).all one = true) (hB : n + 1 ≤ lim)
    {Mv : Value → CM → CM} (hMn : ∀ t m1, (Mv t m1).next = m1.next) (hMg : ∀ t m1 y, (Mv t m1).get y = if m.next ≤ y ∧ y < m.next + (m1.next - m.next) then m1.get y else m.get y)
    (hK : ∀ m', m'.next = m.next + 2 → (∀ y, y < m.next → bn ≠ some y → m'.get y = m.get y) → Own m' (m.next + 1) (cs ++ toL x) (e + 1) → K (.slice (some ⟨m.next + 1, 0, none⟩) (n + 1) 0) m') :
    vop (cbuildS P T 1 [(0, x)] m) (fun t m1 => m.le m1 ∧ vop (cappend P [T, T] v t (Mv t m1)) K) := by
  have hb : cbuildS P T 1 [(0, x)] m = some (.slice (some ⟨m.next, 0, none⟩) 1 0, m.alloc (.cells (toL x) (e + 1) true)) := by
    have hd : z.drop (e + 1) = [] := List.drop_eq_nil_of_le (by omega)
    simp [cbuildS, un, sz, ze, zeros, cfill, hx, splice, hz, hd, h24]
  refine ⟨_, _, hb, ⟨by simp, fun y hy => by rw [CM.get_alloc, if_neg (by omega)]⟩, ?_⟩
  generalize hMM : Mv _ _ = M
  have hMn' : M.next = m.next + 1 := by rw [← hMM, hMn]; simp
  have hMg' : ∀ y, y < m.next → M.get y = m.get y := fun y hy => by rw [← hMM, hMg, if_neg (by omega)]
  have hMo : Own M m.next (toL x) (e + 1) := ⟨by omega, by rw [← hMM, hMg, if_pos (by simp), CM.get_alloc, if_pos rfl]⟩
  refine appG un sz ze hz ha hby h0 h64 (hv.of_get (by omega) fun y hy => hMg' y (hv.lt hy)) (k := 1) (vs := toL x) rfl ?_ (by omega) h1 (by omega) hB fun m' hn hg ho => ?_
  · simp [readS, hMo.2, hx, List.take_of_length_le]
  · rw [hMn'] at ho ⊢
    exact hK m' (by omega) (fun y hy hb => by rw [hg y (by omega) hb, hMg' y hy]) ho
end
end Go.Proofs.Ytbjkpdaigckiiaa
end

section
namespace Go.Proofs.Ytbjkpdaigckiiaa
open Go
theorem Sl.congr {e n : Nat} {m : CM} {v : Value} {row row' : Nat → List Value} (h : Sl e m v n row) (hr : ∀ i, i < n → row i = row' i) : Sl e m v n row' := by
  rcases h with h | ⟨b, o, k, c, own, h1, h2, h3, h4⟩ | h
  · exact .inl h
  · exact .inr (.inl ⟨b, o, k, c, own, h1, h2, h3, fun i hi => by rw [← hr i hi]; exact h4 i hi⟩)
  · exact .inr (.inr h)
theorem chooseF {α β : Type} {r : α → β → Prop} (h : ∀ x, ∃ y, r x y) : ∃ f : α → β, ∀ x, r x (f x) := ⟨fun x => Classical.choose (h x), fun x => Classical.choose_spec (h x)⟩
theorem sumN_at {ks : Nat → Nat} {i n : Nat} (h : i < n) : ks i ≤ sumN ks n := by
  have := sumN_le (ks := ks) (i := i + 1) (n := n) h
  simp only [sumN] at this; omega
theorem sumN_bound {ks : Nat → Nat} {c : Nat} : ∀ {n : Nat}, (∀ i, i < n → ks i ≤ c) → sumN ks n ≤ n * c
  | 0, _ => by simp [sumN]
  | n + 1, h => by
    have h1 := sumN_bound (ks := ks) (n := n) fun i hi => h i (by omega)
    have h2 := h n (by omega)
    simp only [sumN, Nat.add_mul]; omega
theorem wtlI {F : Keep} {k : Nat} {l : List Value} {cs : List CT} (h : WTL F (.i :: cs) k l) : ∃ n k' l', l = .int .i64 n :: l' ∧ WTL F cs k' l' ∧ k' ≤ k := by
  cases h with
  | cons h t => cases h with
  | i x => exact ⟨x, _, _, rfl, t, by omega⟩
theorem wtlS {F : Keep} {k : Nat} {l : List Value} {cs : List CT} (h : WTL F (.s :: cs) k l) : ∃ n k' l', l = .string n :: l' ∧ WTL F cs k' l' ∧ k' ≤ k := by
  cases h with
  | cons h t => cases h with
  | s x => exact ⟨x, _, _, rfl, t, by omega⟩
theorem wtl0 {F : Keep} {k : Nat} {l : List Value} (h : WTL F [] k l) : l = [] := by cases h; rfl
/-- A slice ahead: its rows, each with a weight of at most k. -/
theorem wtlL {F : Keep} {k : Nat} {l : List Value} {cs tys : List CT} (h : WTL F (.sl tys :: cs) k l) : ∃ v n row, ∃ ks : Nat → Nat, ∃ k' l', l = v :: l' ∧ SlF F tys.length v n row ∧ n ≤ k ∧ (∀ i, i < n → WTL F tys (ks i) (row i) ∧ ks i ≤ k) ∧ WTL F cs k' l' ∧ k' ≤ k := by
  cases h with
  | cons h t => cases h with
  | @sl _ _ n row ks hs hp hr =>
    have h1 := sumN_ge (ks := ks) (n := n) fun i hi => Nat.le_trans hp (hr i hi).pos
    refine ⟨_, n, row, ks, _, _, rfl, hs, by omega, fun i hi => ⟨hr i hi, ?_⟩, t, by omega⟩
    have := sumN_at (ks := ks) hi
    omega
/-- A slice of numbers ahead. -/
theorem wtlLi {F : Keep} {k : Nat} {l : List Value} {cs : List CT} (h : WTL F (.sl [.i] :: cs) k l) : ∃ v n, ∃ x : Nat → Int, ∃ k' l', l = v :: l' ∧ SlF F 1 v n (fun j => [.int .i64 (x j)]) ∧ n ≤ k ∧ WTL F cs k' l' ∧ k' ≤ k := by
  obtain ⟨v, n, row, ks, k', l', h1, h2, h3, h4, h5, h6⟩ := wtlL h
  obtain ⟨x, hx⟩ := chooseF (r := fun (i : Nat) (u : Int) => i < n → row i = [.int .i64 u]) fun i => by
    by_cases hi : i < n
    · obtain ⟨u, _, _, e, t, _⟩ := wtlI (h4 i hi).1
      exact ⟨u, fun _ => by rw [e, wtl0 t]⟩
    · exact ⟨0, fun h => absurd h hi⟩
  exact ⟨v, n, x, k', l', h1, fun m hm => (h2 m hm).congr fun i hi => hx i hi, h3, h5, h6⟩
/-- A slice of slices of numbers ahead. -/
theorem wtlLLi {F : Keep} {k : Nat} {l : List Value} {cs : List CT} (h : WTL F (.sl [.sl [.i]] :: cs) k l) : ∃ v n, ∃ vs : Nat → Value, ∃ ns : Nat → Nat, ∃ x : Nat → Nat → Int, ∃ k' l', l = v :: l' ∧ SlF F 1 v n (fun i => [vs i]) ∧ n ≤ k ∧ (∀ i, i < n → SlF F 1 (vs i) (ns i) (fun j => [.int .i64 (x i j)]) ∧ ns i ≤ k) ∧ WTL F cs k' l' ∧ k' ≤ k := by
  obtain ⟨v, n, row, ks, k', l', h1, h2, h3, h4, h5, h6⟩ := wtlL h
  obtain ⟨q, hq⟩ := chooseF (r := fun (i : Nat) (u : Value × Nat × (Nat → Int)) => i < n → row i = [u.1] ∧ SlF F 1 u.1 u.2.1 (fun j => [.int .i64 (u.2.2 j)]) ∧ u.2.1 ≤ k) fun i => by
    by_cases hi : i < n
    · obtain ⟨v', n', x, _, _, e, s, b, t, _⟩ := wtlLi (h4 i hi).1
      exact ⟨⟨v', n', x⟩, fun _ => ⟨by rw [e, wtl0 t], s, Nat.le_trans b (h4 i hi).2⟩⟩
    · exact ⟨⟨undef, 0, fun _ => 0⟩, fun h => absurd h hi⟩
  exact ⟨v, n, fun i => (q i).1, fun i => (q i).2.1, fun i => (q i).2.2, k', l', h1, fun m hm => (h2 m hm).congr fun i hi => (hq i hi).1, h3, fun i hi => ⟨(hq i hi).2.1, (hq i hi).2.2⟩, h5, h6⟩
section
variable {P : Program} {I T : TypeId}
/-- One after the other, by pointers. -/
theorem each_ok {g : FuncId} (c1 : ∀ {a0 a1 : Value} {m : CM} {K : Value → CM → Prop} {Kp : List PanicEntry → CM → Prop}, sEach P I T (RK K Kp) a0 a1 m → callw P g [a0, a1] m K Kp)
    {v f : Value} {n : Nat} {p : Nat → Value} {m : CM} {Inv : CM → Prop} (hn : n < 4611686018427387904) (hlen : ∀ m', clen P T v m' = some (.int .i64 n)) (hcia : ∀ i : Nat, i < n → cia P T v (.int .i64 i) = some (p i))
    (hf : ∀ (i : Nat) (m' : CM) (K : Value → CM → Prop) (Kp : List PanicEntry → CM → Prop), i < n → Inv m' → (∀ m2, Inv m2 → K (.tuple ⟨[]⟩) m2) → callv P f [p i] m' K Kp)
    (h0 : Inv m) {K : Value → CM → Prop} {Kp : List PanicEntry → CM → Prop} (hK : ∀ m', Inv m' → K (.tuple ⟨[]⟩) m') : callw P g [v, f] m K Kp := by
  refine c1 ?_
  unfold sEach
  refine loopA_of (fun l ds m' => ds = [] ∧ ∃ i : Nat, i ≤ n ∧ Inv m' ∧ l = [v, f, .int .i64 i])
    (fun l _ => match l with | [_, _, .int _ i] => n - i.toNat | _ => 0) ⟨rfl, 0, by omega, h0, rfl⟩ ?_
  rintro X ρ ds m' ⟨rfl, i, hi, hI, hl⟩ hX
  simp only [List.map_cons, List.map_nil, List.cons.injEq, and_true] at hl
  obtain ⟨q0, q1, q4⟩ := hl
  simp only [q0, q1, q4, hlen, pop_some, cb_lss]
  by_cases hc : i < n
  · have hc' : decide ((i : Int) < (n : Int)) = true := by simpa using hc
    rw [hc', cnd_true, hcia i hc, pop_some]
    refine hf i m' _ _ hc hI fun m2 h2 => ?_
    rw [cb_add, pop_some, wrap_id (by omega) (by omega)]
    refine hX _ _ _ ⟨rfl, i + 1, by omega, h2, by simp⟩ ?_
    simp only [List.map_cons, List.map_nil, q4]; omega
  · have hc' : decide ((i : Int) < (n : Int)) = false := by simpa using hc
    rw [hc', cnd_false, leave0, RK_ret]
    exact hK _ hI
end
end Go.Proofs.Ytbjkpdaigckiiaa
end
