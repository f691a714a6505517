/- Part 6 of 23 of the proof that the law TopAnewStore returns true and leaves its argument as it read before, for every input that the bounded statement admits (what it reads is of bulk at most 1048576). -/
import Derived.Test.YtjkfleibnojjaaaP02
import Derived.Test.YtjkfleibnojjaaaP05
section
namespace Go.Proofs.Ytjkfleibnojjaaa
open Go
/-! ### The first thing with an error -/
theorem elv_toL {a : Bool} {e : Nat} {r : List Value} (he : a = false → e = 1) (hr : r.length = e) (h1 : r.all one = true) : toL (elv a r) = r ∧ (toL (elv a r)).all one = true := by
  cases a with
  | true => exact ⟨rfl, h1⟩
  | false =>
    have := he rfl
    subst this
    match r, hr with
    | [x], _ =>
      have hx : one x = true := by simpa using h1
      have : toL (elv false [x]) = [x] := toL_one hx
      exact ⟨this, by rw [this]; exact h1⟩
section
variable {P : Program} {I T E Er : TypeId}
def sFirst (P : Program) (I T E Er : TypeId) (R : CE → CM → Prop) (a0 a1 : Value) (m : CM) : Prop :=
  pop (clen P T a0 m) m (fun t9 m => loopA [1, 4, 5, 8, 9, 10] (fun X1 ρ1 ds m => pop (cbin P BinOp.lss I (Operand.tmp 10) (Operand.tmp 9) (ρ1 10) (ρ1 9)) m (fun t11 m => cnd t11 (pop (cia P T (ρ1 8) (ρ1 10)) m (fun t13 m => pop (cload P E t13 m) m (fun t14 m => alw P E m (fun t7 m => sop (cstore P E t7 t14 m) (fun _ m => pop (cload P E t7 m) m (fun t17 m => callv P (ρ1 1) [(ρ1 10), t17] m (fun t18 m => pop (cbin P BinOp.neq Er (Operand.tmp 19) (Operand.const (Value.int IntKind.i64 0)) t18 (.int .i64 0)) m (fun t20 m => cnd t20 (leaveV P [.v (ρ1 10), .v t18] ds .ret m R) (pop (cbin P BinOp.add I (Operand.tmp 10) (Operand.const (Value.int IntKind.i64 1)) (ρ1 10) (.int .i64 1)) m (fun t23 m => X1 [(ρ1 1), (ρ1 4), t18, (ρ1 8), (ρ1 9), t23] ds m)))) (fun ch m => leaveV P [.v (ρ1 4), .v (ρ1 5)] ds (.pan ch) m R))))))) (leaveV P [.v (.int .i64 0), .v (.int .i64 0)] ds .ret m R))) [a1, (.int .i64 0), (.int .i64 0), a0, t9, (.int .i64 0)] [] m)
/-- I i holds before the i-th thing; J e when the error e was found. -/
theorem first_ok {g : FuncId} (hc : ∀ {a0 a1 : Value} {m : CM} {K : Value → CM → Prop} {Kp : List PanicEntry → CM → Prop}, sFirst P I T E Er (RK K Kp) a0 a1 m → callw P g [a0, a1] m K Kp)
    {e : Nat} {a : Bool} {z : List Value} (un : P.underlying T = some (.slice E)) (sz : szOf P E = some e) (ag : aggB P E = some a) (he : a = false → e = 1) (ze : zeroL P E = some z) (hz : z.length = e)
    {m : CM} {v f : Value} {n : Nat} {row : Nat → List Value} {Inv : Nat → CM → Prop} {J : Int → CM → Prop} (hn : n < 4611686018427387904) (h1 : ∀ i, i < n → (row i).all one = true)
    (hs : ∀ i m', Inv i m' → Sl e m' v n row) (hI : ∀ i m' m2, Inv i m' → m'.le m2 → Inv i m2)
    (hf : ∀ (i : Nat) (m' : CM) (K : Value → CM → Prop) (Kp : List PanicEntry → CM → Prop), i < n → Inv i m' → (∀ m2 (c : Int), (c = 0 → Inv (i + 1) m2) → (c ≠ 0 → J c m2) → K (.int .i64 c) m2) → callv P f [.int .i64 i, elv a (row i)] m' K Kp)
    (h0 : Inv 0 m) {K : Value → CM → Prop} {Kp : List PanicEntry → CM → Prop} (hK : ∀ m' (x c : Int), (c = 0 → Inv n m') → (c ≠ 0 → J c m') → K (.tuple ⟨[.int .i64 x, .int .i64 c]⟩) m') : callw P g [v, f] m K Kp := by
  refine hc ?_
  unfold sFirst
  simp only [(hs _ _ h0).len un, pop_some]
  refine loopA_of (fun l ds m' => ds = [] ∧ ∃ i : Nat, ∃ c : Value, i ≤ n ∧ Inv i m' ∧ l = [f, .int .i64 0, c, v, .int .i64 n, .int .i64 i])
    (fun l _ => match l with | [_, _, _, _, _, .int _ i] => n - i.toNat | _ => 0) ⟨rfl, 0, _, by omega, h0, rfl⟩ ?_
  rintro X ρ ds m' ⟨rfl, i, c, hi, hIm, hl⟩ hX
  simp only [List.map_cons, List.map_nil, List.cons.injEq, and_true] at hl
  obtain ⟨q1, q4, q5, q8, q9, q10⟩ := hl
  simp only [q1, q4, q5, q8, q9, q10, cb_lss, pop_some]
  by_cases hci : i < n
  · have hc' : decide ((i : Int) < (n : Int)) = true := by simpa using hci
    obtain ⟨b, o, hia, hcel, hlen⟩ := (hs _ _ hIm).at un sz (i := i) (by omega) (by omega)
    simp only [Int.toNat_natCast] at hcel hlen
    rw [hc', cnd_true, hia, pop_some, hcel.elv ag sz hlen he, pop_some]
    obtain ⟨e1, e2⟩ := elv_toL he hlen (h1 i hci)
    refine alw_of ze fun b7 m1 hle1 hb7 ho7 => ?_
    refine ho7.store (by rw [e1, hlen]; exact sz) (by rw [e1]; omega) e2 fun m2 hn2 hx2 ho2 => ?_
    rw [e1] at ho2
    have hsp : splice z 0 (row i) = row i := by
      have hd : z.drop (row i).length = [] := List.drop_eq_nil_of_le (by omega)
      simp [splice, hd]
    rw [hsp] at ho2
    have hle2 := le_of_put hle1 hb7 hn2 hx2
    have hld : cload P E (.pointer (some ⟨b7, 0, none⟩)) m2 = some (elv a (row i)) := ho2.cel.elv ag sz hlen he
    rw [hld, pop_some]
    refine hf i m2 _ _ hci (hI _ _ _ hIm hle2) fun m3 c3 g0 g1 => ?_
    rw [cb_neq, pop_some]
    cases hcc : (c3 != 0) with
    | true =>
      have hne : c3 ≠ 0 := by simpa using hcc
      rw [cnd_true, leave2, RK_ret]
      exact hK _ _ _ (fun h => absurd h hne) g1
    | false =>
      have he0 : c3 = 0 := by simpa using hcc
      rw [cnd_false, cb_add, pop_some, wrap_id (by omega) (by omega)]
      refine hX _ _ _ ⟨rfl, i + 1, .int .i64 c3, by omega, g0 he0, by simp⟩ ?_
      simp only [List.map_cons, List.map_nil, q10]; omega
  · have hc' : decide ((i : Int) < (n : Int)) = false := by simpa using hci
    rw [hc', cnd_false, leave2, RK_ret]
    have : i = n := by omega
    subst this
    exact hK _ _ _ (fun _ => hIm) (fun h => absurd rfl h)
end
end Go.Proofs.Ytjkfleibnojjaaa
end

section
namespace Go.Proofs.Ytjkfleibnojjaaa
open Go
/-! ### What a closure leaves, and how it is written over -/
theorem clo_of {P : Program} {F : Keep} {m m1 : CM} {h B : Nat} (hh : h < m.next) (hF : ∀ x, x < m.next → x ≠ h → F x = some (m.get x)) (hp : Hp F h B m1) (hB : B ≤ lim) {W : Nat → Prop} (hW : ∀ x, W x → m.next ≤ x ∧ ∃ y, F x = some y) {v : Value} {g2 : FuncId} {cs2 : List Value} (hv : v = .func (.func g2) ⟨[]⟩ ⟨cs2⟩)
    (hwipe : ∀ M : CM, m1.next = M.next → (∀ x c e o, m.next ≤ x → x < m1.next → m1.get x = some (.cells c e o) → M.get x = some (.cells c e o)) →
      callw P g2 cs2 M (fun _ M2 => M.next ≤ M2.next ∧ ∀ x, x < M.next → ¬ W x → M2.get x = M.get x) (fun _ _ => False)) : CloPost P m h v m1 := by
  obtain ⟨vn, vs, bn, bs, cn, cs, h1, h2, h3, h4, h5, h6, h7, h8⟩ := hp.ex
  have hn : m.next ≤ m1.next := by
    by_cases e : m.next - 1 = h
    · have := h3.1; omega
    · have := (h8 _ _ (hF (m.next - 1) (by omega) e)).1.1; omega
  refine ⟨vn, vs, bn, bs, cn, cs, W, g2, cs2, h1, h2, h3, ⟨by omega, by omega⟩, h6, h7, ⟨hn, fun x hx hne => (h8 _ _ (hF x hx hne)).1.2⟩, fun y hy => ⟨?_, fun hw => ?_⟩, fun y hy => ⟨?_, fun hw => ?_⟩, fun x hx => (hW x hx).1, hv, hwipe⟩
  · apply Nat.le_of_not_lt; intro hlt
    by_cases e : y = h
    · subst e; exact h4.1 hy
    · exact (h8 _ _ (hF y hlt e)).2.2.1 hy
  · obtain ⟨_, z, hz⟩ := hW y hw
    exact (h8 _ _ hz).2.2.1 hy
  · apply Nat.le_of_not_lt; intro hlt
    by_cases e : y = h
    · subst e; exact h4.2.1 hy
    · exact (h8 _ _ (hF y hlt e)).2.2.2 hy
  · obtain ⟨_, z, hz⟩ := hW y hw
    exact (h8 _ _ hz).2.2.2 hy
theorem fw_keepBut (m : CM) (h : Nat) : FW (keepBut m h) m := fun x y hx => by
  unfold keepBut at hx
  split at hx
  · rename_i e; cases hx; exact ⟨e.1, rfl⟩
  · cases hx
theorem keepBut_get {m : CM} {h x : Nat} (hx : x < m.next) (hne : x ≠ h) : keepBut m h x = some (m.get x) := by unfold keepBut; rw [if_pos ⟨hx, hne⟩]
/-- The heap is empty still. -/
theorem hp_but {m : CM} {h : Nat} (ho : Own m h [.slice none 0 0, .slice none 0 0] 0) : Hp (keepBut m h) h 0 m :=
  hp_init (fw_keepBut m h) (fun y hy => by unfold keepBut at hy; rw [if_neg (by omega)] at hy; cases hy) ho
/-- A closure that has nothing to write over. -/
theorem clo_nothing {P : Program} {m m' m1 : CM} {h B : Nat} (ho : Own m h [.slice none 0 0, .slice none 0 0] 0) (hle : m.le m') (hp : Hp (keepBut m' h) h B m1) (hB : B ≤ lim) {g2 : FuncId} (hwipe : ∀ (M : CM) (K : Value → CM → Prop) (Kp : List PanicEntry → CM → Prop), K (.tuple ⟨[]⟩) M → callw P g2 [] M K Kp) : CloPost P m h (.func (.func g2) ⟨[]⟩ ⟨[]⟩) m1 :=
  clo_of ho.1 (fun x hx hne => by rw [keepBut_get (Nat.lt_of_lt_of_le hx hle.1) hne, hle.2 x hx]) hp hB (W := fun _ => False) (fun x hx => hx.elim) rfl fun M hM hc => hwipe M _ _ ⟨Nat.le_refl _, fun _ _ _ => rfl⟩
theorem sumN_one (n : Nat) : sumN (fun _ => 1) n = n := by induction n with
  | zero => rfl
  | succ n ih => simp only [sumN, ih]
theorem HV.wt {m : CM} {h : Nat} {v : Value} {bn : Option Nat} {cs : List Value} (hv : HV m v bn cs) (hb : ∀ y, bn = some y → y ≠ h) {t : CT} (hc : ∀ u ∈ cs, WT (keepBut m h) t 1 u) : WTL (keepBut m h) [.sl [t]] (1 + cs.length) [v] := by
  refine .cons (k' := 0) ?_ .nil
  rw [← sumN_one cs.length]
  refine .sl (row := fun i => [cs.getD i undef]) (fun M hM => ?_) (by simp) fun i hi => ?_
  · cases hv with
    | nil => exact HV.sl .nil
    | blk ho => exact HV.sl (.blk ⟨(hM _ _ (keepBut_get ho.1 (hb _ rfl))).1, by rw [(hM _ _ (keepBut_get ho.1 (hb _ rfl))).2]; exact ho.2⟩)
  · refine .cons (k' := 0) (hc _ ?_) .nil
    rw [List.getD_eq_getElem?_getD, List.getElem?_eq_getElem hi]
    exact List.getElem_mem hi
section
variable {P : Program} {I T : TypeId}
def sEach (P : Program) (I T : TypeId) (R : CE → CM → Prop) (a0 a1 : Value) (m : CM) : Prop :=
  loopA [0, 1, 4] (fun X1 ρ1 ds m => pop (clen P T (ρ1 0) m) m (fun t7 m => pop (cbin P BinOp.lss I (Operand.tmp 5) (Operand.tmp 7) (ρ1 4) t7) m (fun t8 m => cnd t8 (pop (cia P T (ρ1 0) (ρ1 4)) m (fun t14 m => callv P (ρ1 1) [t14] m (fun _ m => pop (cbin P BinOp.add I (Operand.tmp 9) (Operand.const (Value.int IntKind.i64 1)) (ρ1 4) (.int .i64 1)) m (fun t10 m => X1 [(ρ1 0), (ρ1 1), t10] ds m)) (fun ch m => leaveV P [] ds (.pan ch) m R))) (leaveV P [] ds .ret m R)))) [a0, a1, (.int .i64 0)] [] m
def sWipe1 (P : Program) (I : TypeId) (n : Int) (R : CE → CM → Prop) (a0 : Value) (m : CM) : Prop :=
  pop (cnilm P a0) m (fun t3 m => sop (cstore P I t3 (.int .i64 n) m) (fun _ m => leaveV P [] [] .ret m R))
def sWipes (P : Program) (T : TypeId) (g g1 : FuncId) (R : CE → CM → Prop) (a0 : Value) (m : CM) : Prop :=
  pop (cnilm P a0) m (fun t3 m => pop (cload P T t3 m) m (fun t4 m => callw P g [t4, (.func (.func g1) ⟨[]⟩ ⟨[]⟩)] m (fun _ m => leaveV P [] [] .ret m R) (fun ch m => R (.pan ch) m)))
theorem splice_at {c : List Value} {i : Nat} (hi : i < c.length) (x : Value) : (splice c i [x]).length = c.length := by simp [splice]; omega
/-- Writing over a slice of numbers. -/
theorem wipes_ok (un : P.underlying T = some (.slice I)) (sz : szOf P I = some 1) (agT : aggB P T = some false) {n : Int} {g g1 : FuncId}
    (c1 : ∀ {a0 a1 : Value} {m : CM} {K : Value → CM → Prop} {Kp : List PanicEntry → CM → Prop}, sEach P I T (RK K Kp) a0 a1 m → callw P g [a0, a1] m K Kp)
    (c2 : ∀ {a0 : Value} {m : CM} {K : Value → CM → Prop} {Kp : List PanicEntry → CM → Prop}, sWipe1 P I n (RK K Kp) a0 m → callw P g1 [a0] m K Kp)
    {t : Nat} {v : Value} {bn : Option Nat} {cs : List Value} {m : CM} (ho : Own m t [v] 0) (hv : HV m v bn cs) (hlen : cs.length ≤ lim) {K : CE → CM → Prop} (hK : ∀ m', m'.next = m.next → (∀ x, bn ≠ some x → m'.get x = m.get x) → K (.ret (.tuple ⟨[]⟩)) m') :
    sWipes P T g g1 K (.pointer (some ⟨t, 0, none⟩)) m := by
  unfold sWipes
  simp only [cnilm, cnilc, pop_some]
  rw [ho.cel.z agT rfl, pop_some]
  refine c1 ?_
  unfold sEach
  have hll : lim < 4611686018427387904 := by decide
  refine loopA_of (fun l ds m' => ds = [] ∧ ∃ (i : Nat) (cs' : List Value), i ≤ cs.length ∧ m'.next = m.next ∧ (∀ x, bn ≠ some x → m'.get x = m.get x) ∧ cs'.length = cs.length ∧ HV m' v bn cs' ∧ l = [v, .func (.func g1) ⟨[]⟩ ⟨[]⟩, .int .i64 i])
    (fun l _ => match l with | [_, _, .int _ i] => cs.length - i.toNat | _ => 0) ⟨rfl, 0, cs, by omega, rfl, fun _ _ => rfl, rfl, hv, rfl⟩ ?_
  rintro X ρ ds m' ⟨rfl, i, cs', hi, hn, hx, hl', hv', hl⟩ hX
  simp only [List.map_cons, List.map_nil, List.cons.injEq, and_true] at hl
  obtain ⟨h0, h1, h4⟩ := hl
  simp only [h0, h1, h4, hv'.sl.len un, pop_some, cb_lss]
  by_cases hc : i < cs.length
  · have hc' : decide ((i : Int) < (cs'.length : Int)) = true := by simpa [hl'] using hc
    rw [hc', cnd_true]
    cases hv' with
    | nil => simp at hl'; omega
    | blk ho' =>
    rename_i b
    have hia : cia P T (.slice (some ⟨b, 0, none⟩) cs'.length 0) (.int .i64 i) = some (.pointer (some ⟨b, i, none⟩)) := by
      have h : ((i : Int).toNat < cs'.length) := by omega
      simp [cia, un, sz]
      omega
    rw [hia, pop_some]
    show callw P g1 ([] ++ [_] ++ []) m' _ _
    refine c2 ?_
    unfold sWipe1
    simp only [cnilm, cnilc, pop_some]
    refine ho'.store (by simp [toL, sz]) (by simp [toL]; omega) rfl fun m2 hn2 hx2 ho2 => ?_
    rw [leave0, RK_ret, cb_add, pop_some, wrap_id (by omega) (by omega)]
    have hls : (splice cs' i (toL (.int .i64 n))).length = cs'.length := splice_at (by omega) _
    refine hX _ _ _ ⟨rfl, i + 1, splice cs' i (toL (.int .i64 n)), by omega, by omega, fun x hne => ?_, by omega, ?_, by simp⟩ ?_
    · rw [hx2 x (fun e => hne (by rw [e])), hx x hne]
    · have h3 := HV.blk ho2
      rw [hls] at h3
      exact h3
    · simp only [List.map_cons, List.map_nil, h4]; omega
  · have hc' : decide ((i : Int) < (cs'.length : Int)) = false := by simpa [hl'] using hc
    rw [hc', cnd_false, leave0, RK_ret, leave0]
    exact hK _ hn hx
end
end Go.Proofs.Ytjkfleibnojjaaa
end

section
namespace Go.Proofs.Ytjkfleibnojjaaa
open Go
/-! ### Slices of rows that are the call's own: append, how they are typed -/
/-- A slice of n rows of e cells: nil, or all of a block of its own. -/
inductive HVe (e : Nat) (m : CM) : Value → Option Nat → List Value → Nat → Prop where
  | nil : HVe e m (.slice none 0 0) none [] 0
  | blk {b n : Nat} {c : List Value} (h : Own m b c e) (hl : c.length = n * e) : HVe e m (.slice (some ⟨b, 0, none⟩) n 0) (some b) c n
section
variable {e : Nat} {m m' : CM} {v : Value} {b : Option Nat} {c : List Value} {n : Nat}
theorem HVe.of_get (h : HVe e m v b c n) (hn : m.next ≤ m'.next) (hg : ∀ y, b = some y → m'.get y = m.get y) : HVe e m' v b c n := by
  cases h with
  | nil => exact .nil
  | blk h hl => exact .blk ⟨Nat.lt_of_lt_of_le h.1 hn, by rw [hg _ rfl]; exact h.2⟩ hl
theorem HVe.lt (h : HVe e m v b c n) {y : Nat} (q : b = some y) : y < m.next := by
  cases h with
  | nil => cases q
  | blk h => cases q; exact h.1
theorem HVe.le (h : HVe e m v b c n) (k : m.le m') : HVe e m' v b c n := h.of_get k.1 fun y hy => k.2 y (h.lt hy)
theorem HVe.len (h : HVe e m v b c n) : c.length = n * e := by
  cases h with
  | nil => simp
  | blk _ hl => exact hl
theorem HVe.toL1 (h : HVe e m v b c n) : toL v = [v] ∧ (toL v).all one = true := by cases h <;> exact ⟨rfl, rfl⟩
theorem HVe.hv (h : HVe 1 m v b c n) : HV m v b c := by
  cases h with
  | nil => exact .nil
  | blk h hl =>
    have : c.length = n := by omega
    subst this
    exact .blk h
def rowE (e : Nat) (c : List Value) (i : Nat) : List Value := (c.drop (i * e)).take e
theorem rowE_len {e : Nat} {c : List Value} {n i : Nat} (h : c.length = n * e) (hi : i < n) : (rowE e c i).length = e := by
  have : (i + 1) * e ≤ n * e := Nat.mul_le_mul_right e hi
  rw [Nat.add_mul, Nat.one_mul] at this
  simp [rowE]; omega
theorem HVe.sl (h : HVe e m v b c n) : Sl e m v n (rowE e c) := by
  cases h with
  | nil => exact .inl ⟨rfl, rfl⟩
  | blk ho hl =>
    refine .inr (.inl ⟨_, 0, 0, c, true, rfl, ho.1, ho.2, fun i hi => ⟨rowE_len hl hi, fun j hj => ?_⟩⟩)
    simp only [rowE, List.getElem?_take, hj, if_true, List.getElem?_drop, Nat.zero_add]
theorem rowE_app_left {e : Nat} {c d : List Value} {n i : Nat} (h : c.length = n * e) (hi : i < n) : rowE e (c ++ d) i = rowE e c i := by
  have : (i + 1) * e ≤ n * e := Nat.mul_le_mul_right e hi
  rw [Nat.add_mul, Nat.one_mul] at this
  simp only [rowE]
  rw [List.drop_append, List.take_append_of_le_length (by simp; omega)]
theorem rowE_app_right {e : Nat} {c d : List Value} {n : Nat} (h : c.length = n * e) (hd : d.length = e) : rowE e (c ++ d) n = d := by
  simp only [rowE]
  rw [← h, List.drop_left, ← hd, List.take_length]
/-- Kept by all that keeps a memory but for one block. -/
theorem HVe.slF {h : Nat} (hv : HVe e m v b c n) (hb : ∀ y, b = some y → y ≠ h) : SlF (keepBut m h) e v n (rowE e c) := fun M hM => by
  cases hv with
  | nil => exact HVe.sl .nil
  | blk ho hl => exact HVe.sl (.blk ⟨(hM _ _ (keepBut_get ho.1 (hb _ rfl))).1, by rw [(hM _ _ (keepBut_get ho.1 (hb _ rfl))).2]; exact ho.2⟩ hl)
theorem HVe.wt {h : Nat} (hv : HVe e m v b c n) (hb : ∀ y, b = some y → y ≠ h) {tys : List CT} (ht : tys.length = e) (he : 0 < e) {ks : Nat → Nat} (hr : ∀ i, i < n → WTL (keepBut m h) tys (ks i) (rowE e c i)) : WT (keepBut m h) (.sl tys) (1 + sumN ks n) v :=
  .sl (row := rowE e c) (by rw [ht]; exact hv.slF hb) (by omega) hr
end
section
variable {P : Program} {T E : TypeId} {m M : CM} {K : Value → CM → Prop}
/-- Append, whatever lies behind. -/
theorem appG {e : Nat} {z : List Value} {by' : Nat} (un : P.underlying T = some (.slice E)) (sz : szOf P E = some (e + 1)) (ze : zeroL P E = some z) (hz : z.length = e + 1) (ha : appArg P T = true) (hby : bytesOf' P E = by') (h0 : 0 < by') (h64 : by' ≤ 64)
    {v x : Value} {bn : Option Nat} {cs vs : List Value} {n k : Nat} (hv : HVe (e + 1) M v bn cs n) (hl : lenV x = some k) (hr : readS M x (e + 1) k = some vs) (hvl : vs.length = k * (e + 1)) (h1 : vs.all one = true) (hk : 0 < k) (hB : n + k ≤ lim)
    (hK : ∀ m', m'.next = M.next + 1 → (∀ y, y < M.next → bn ≠ some y → m'.get y = M.get y) → Own m' M.next (cs ++ vs) (e + 1) → K (.slice (some ⟨M.next, 0, none⟩) (n + k) 0) m') : vop (cappend P [T, T] v x M) K := by
  have hl' : (2 * (n + k) + 1024) * by' ≤ 2 ^ 48 := by
    have : (2 * (n + k) + 1024) * by' ≤ (2 * lim + 1024) * 64 := Nat.mul_le_mul (by omega) h64
    exact Nat.le_trans this (by decide)
  cases hv with
  | nil =>
    have hc : cappend P [T, T] (.slice none 0 0) x M = some (.slice (some ⟨M.next, 0, none⟩) k 0, M.alloc (.cells vs (e + 1) true)) := by
      simp only [cappend, un, ha, if_true, sz, ze, hl, hr, hvl, hz, h1, and_self, hby]
      rw [if_neg (by omega), if_pos ⟨by rw [Nat.zero_add] at hl'; exact hl', h0⟩]
    refine ⟨_, _, hc, ?_⟩
    have := hK (M.alloc (.cells vs (e + 1) true)) (by simp) (fun y hy _ => by rw [CM.get_alloc, if_neg (by omega)]) ⟨by simp, by rw [CM.get_alloc, if_pos rfl]; rfl⟩
    rwa [Nat.zero_add] at this
  | blk ho hln =>
    rename_i b
    have hb := ho.1
    have hc : cappend P [T, T] (.slice (some ⟨b, 0, none⟩) n 0) x M = some (.slice (some ⟨M.next, 0, none⟩) (n + k) 0, (M.set b none).alloc (.cells (cs ++ vs) (e + 1) true)) := by
      simp only [cappend, un, ha, if_true, sz, ze, hl, hr, hvl, hz, h1, and_self, hby, ho.2, hln]
      rw [if_pos ⟨trivial, hl', h0⟩]
    refine ⟨_, _, hc, hK _ (by simp) (fun y hy hn => ?_) ⟨by simp, by rw [CM.get_alloc, if_pos (by simp)]⟩⟩
    rw [CM.get_alloc, if_neg (by simp; omega), CM.get_set, if_neg (fun e => hn (by rw [e]))]
/-- One row put behind, where the append looks at a view of the memory. -/
theorem appJ {e : Nat} (h24 : e + 1 ≤ 16777216) {z : List Value} {by' : Nat} (un : P.underlying T = some (.slice E)) (sz : szOf P E = some (e + 1)) (ze : zeroL P E = some z) (hz : z.length = e + 1) (ha : appArg P T = true) (hby : bytesOf' P E = by') (h0 : 0 < by') (h64 : by' ≤ 64)
    {v x : Value} {bn : Option Nat} {cs : List Value} {n : Nat} (hv : HVe (e + 1) m v bn cs n) (hx : (toL x).length = e + 1) (h1 : (toL x).all one = true) (hB : n + 1 ≤ lim)
    {Mv : Value → CM → CM} (hMn : ∀ t m1, (Mv t m1).next = m1.next) (hMg : ∀ t m1 y, (Mv t m1).get y = if m.next ≤ y ∧ y < m.next + (m1.next - m.next) then m1.get y else m.get y)
    (hK : ∀ m', m'.next = m.next + 2 → (∀ y, y < m.next → bn ≠ some y → m'.get y = m.get y) → Own m' (m.next + 1) (cs ++ toL x) (e + 1) → K (.slice (some ⟨m.next + 1, 0, none⟩) (n + 1) 0) m') :
    vop (cbuildS P T 1 [(0, x)] m) (fun t m1 => m.le m1 ∧ vop (cappend P [T, T] v t (Mv t m1)) K) := by
  have hb : cbuildS P T 1 [(0, x)] m = some (.slice (some ⟨m.next, 0, none⟩) 1 0, m.alloc (.cells (toL x) (e + 1) true)) := by
    have hd : z.drop (e + 1) = [] := List.drop_eq_nil_of_le (by omega)
    simp [cbuildS, un, sz, ze, zeros, cfill, hx, splice, hz, hd, h24]
  refine ⟨_, _, hb, ⟨by simp, fun y hy => by rw [CM.get_alloc, if_neg (by omega)]⟩, ?_⟩
  generalize hMM : Mv _ _ = M
  have hMn' : M.next = m.next + 1 := by rw [← hMM, hMn]; simp
  have hMg' : ∀ y, y < m.next → M.get y = m.get y := fun y hy => by rw [← hMM, hMg, if_neg (by omega)]
  have hMo : Own M m.next (toL x) (e + 1) := ⟨by omega, by rw [← hMM, hMg, if_pos (by simp), CM.get_alloc, if_pos rfl]⟩
  refine appG un sz ze hz ha hby h0 h64 (hv.of_get (by omega) fun y hy => hMg' y (hv.lt hy)) (k := 1) (vs := toL x) rfl ?_ (by omega) h1 (by omega) hB fun m' hn hg ho => ?_
  · simp [readS, hMo.2, hx, List.take_of_length_le]
  · rw [hMn'] at ho ⊢
    exact hK m' (by omega) (fun y hy hb => by rw [hg y (by omega) hb, hMg' y hy]) ho
end
end Go.Proofs.Ytjkfleibnojjaaa
end

section
namespace Go.Proofs.Ytjkfleibnojjaaa
open Go
theorem Sl.congr {e n : Nat} {m : CM} {v : Value} {row row' : Nat → List Value} (h : Sl e m v n row) (hr : ∀ i, i < n → row i = row' i) : Sl e m v n row' := by
  rcases h with h | ⟨b, o, k, c, own, h1, h2, h3, h4⟩ | h
  · exact .inl h
  · exact .inr (.inl ⟨b, o, k, c, own, h1, h2, h3, fun i hi => by rw [← hr i hi]; exact h4 i hi⟩)
  · exact .inr (.inr h)
theorem chooseF {α β : Type} {r : α → β → Prop} (h : ∀ x, ∃ y, r x y) : ∃ f : α → β, ∀ x, r x (f x) := ⟨fun x => Classical.choose (h x), fun x => Classical.choose_spec (h x)⟩
theorem sumN_at {ks : Nat → Nat} {i n : Nat} (h : i < n) : ks i ≤ sumN ks n := by
  have := sumN_le (ks := ks) (i := i + 1) (n := n) h
  simp only [sumN] at this; omega
theorem sumN_bound {ks : Nat → Nat} {c : Nat} : ∀ {n : Nat}, (∀ i, i < n → ks i ≤ c) → sumN ks n ≤ n * c
  | 0, _ => by simp [sumN]
  | n + 1, h => by
    have h1 := sumN_bound (ks := ks) (n := n) fun i hi => h i (by omega)
    have h2 := h n (by omega)
    simp only [sumN, Nat.add_mul]; omega
theorem wtlI {F : Keep} {k : Nat} {l : List Value} {cs : List CT} (h : WTL F (.i :: cs) k l) : ∃ n k' l', l = .int .i64 n :: l' ∧ WTL F cs k' l' ∧ k' ≤ k := by
  cases h with
  | cons h t => cases h with
  | i x => exact ⟨x, _, _, rfl, t, by omega⟩
theorem wtlS {F : Keep} {k : Nat} {l : List Value} {cs : List CT} (h : WTL F (.s :: cs) k l) : ∃ n k' l', l = .string n :: l' ∧ WTL F cs k' l' ∧ k' ≤ k := by
  cases h with
  | cons h t => cases h with
  | s x => exact ⟨x, _, _, rfl, t, by omega⟩
theorem wtl0 {F : Keep} {k : Nat} {l : List Value} (h : WTL F [] k l) : l = [] := by cases h; rfl
/-- A slice ahead: its rows, each with a weight of at most k. -/
theorem wtlL {F : Keep} {k : Nat} {l : List Value} {cs tys : List CT} (h : WTL F (.sl tys :: cs) k l) : ∃ v n row, ∃ ks : Nat → Nat, ∃ k' l', l = v :: l' ∧ SlF F tys.length v n row ∧ n ≤ k ∧ (∀ i, i < n → WTL F tys (ks i) (row i) ∧ ks i ≤ k) ∧ WTL F cs k' l' ∧ k' ≤ k := by
  cases h with
  | cons h t => cases h with
  | @sl _ _ n row ks hs hp hr =>
    have h1 := sumN_ge (ks := ks) (n := n) fun i hi => Nat.le_trans hp (hr i hi).pos
    refine ⟨_, n, row, ks, _, _, rfl, hs, by omega, fun i hi => ⟨hr i hi, ?_⟩, t, by omega⟩
    have := sumN_at (ks := ks) hi
    omega
/-- A slice of numbers ahead. -/
theorem wtlLi {F : Keep} {k : Nat} {l : List Value} {cs : List CT} (h : WTL F (.sl [.i] :: cs) k l) : ∃ v n, ∃ x : Nat → Int, ∃ k' l', l = v :: l' ∧ SlF F 1 v n (fun j => [.int .i64 (x j)]) ∧ n ≤ k ∧ WTL F cs k' l' ∧ k' ≤ k := by
  obtain ⟨v, n, row, ks, k', l', h1, h2, h3, h4, h5, h6⟩ := wtlL h
  obtain ⟨x, hx⟩ := chooseF (r := fun (i : Nat) (u : Int) => i < n → row i = [.int .i64 u]) fun i => by
    by_cases hi : i < n
    · obtain ⟨u, _, _, e, t, _⟩ := wtlI (h4 i hi).1
      exact ⟨u, fun _ => by rw [e, wtl0 t]⟩
    · exact ⟨0, fun h => absurd h hi⟩
  exact ⟨v, n, x, k', l', h1, fun m hm => (h2 m hm).congr fun i hi => hx i hi, h3, h5, h6⟩
/-- A slice of slices of numbers ahead. -/
theorem wtlLLi {F : Keep} {k : Nat} {l : List Value} {cs : List CT} (h : WTL F (.sl [.sl [.i]] :: cs) k l) : ∃ v n, ∃ vs : Nat → Value, ∃ ns : Nat → Nat, ∃ x : Nat → Nat → Int, ∃ k' l', l = v :: l' ∧ SlF F 1 v n (fun i => [vs i]) ∧ n ≤ k ∧ (∀ i, i < n → SlF F 1 (vs i) (ns i) (fun j => [.int .i64 (x i j)]) ∧ ns i ≤ k) ∧ WTL F cs k' l' ∧ k' ≤ k := by
  obtain ⟨v, n, row, ks, k', l', h1, h2, h3, h4, h5, h6⟩ := wtlL h
  obtain ⟨q, hq⟩ := chooseF (r := fun (i : Nat) (u : Value × Nat × (Nat → Int)) => i < n → row i = [u.1] ∧ SlF F 1 u.1 u.2.1 (fun j => [.int .i64 (u.2.2 j)]) ∧ u.2.1 ≤ k) fun i => by
    by_cases hi : i < n
    · obtain ⟨v', n', x, _, _, e, s, b, t, _⟩ := wtlLi (h4 i hi).1
      exact ⟨⟨v', n', x⟩, fun _ => ⟨by rw [e, wtl0 t], s, Nat.le_trans b (h4 i hi).2⟩⟩
    · exact ⟨⟨undef, 0, fun _ => 0⟩, fun h => absurd h hi⟩
  exact ⟨v, n, fun i => (q i).1, fun i => (q i).2.1, fun i => (q i).2.2, k', l', h1, fun m hm => (h2 m hm).congr fun i hi => (hq i hi).1, h3, fun i hi => ⟨(hq i hi).2.1, (hq i hi).2.2⟩, h5, h6⟩
section
variable {P : Program} {I T : TypeId}
/-- One after the other, by pointers. -/
theorem each_ok {g : FuncId} (c1 : ∀ {a0 a1 : Value} {m : CM} {K : Value → CM → Prop} {Kp : List PanicEntry → CM → Prop}, sEach P I T (RK K Kp) a0 a1 m → callw P g [a0, a1] m K Kp)
    {v f : Value} {n : Nat} {p : Nat → Value} {m : CM} {Inv : CM → Prop} (hn : n < 4611686018427387904) (hlen : ∀ m', clen P T v m' = some (.int .i64 n)) (hcia : ∀ i : Nat, i < n → cia P T v (.int .i64 i) = some (p i))
    (hf : ∀ (i : Nat) (m' : CM) (K : Value → CM → Prop) (Kp : List PanicEntry → CM → Prop), i < n → Inv m' → (∀ m2, Inv m2 → K (.tuple ⟨[]⟩) m2) → callv P f [p i] m' K Kp)
    (h0 : Inv m) {K : Value → CM → Prop} {Kp : List PanicEntry → CM → Prop} (hK : ∀ m', Inv m' → K (.tuple ⟨[]⟩) m') : callw P g [v, f] m K Kp := by
  refine c1 ?_
  unfold sEach
  refine loopA_of (fun l ds m' => ds = [] ∧ ∃ i : Nat, i ≤ n ∧ Inv m' ∧ l = [v, f, .int .i64 i])
    (fun l _ => match l with | [_, _, .int _ i] => n - i.toNat | _ => 0) ⟨rfl, 0, by omega, h0, rfl⟩ ?_
  rintro X ρ ds m' ⟨rfl, i, hi, hI, hl⟩ hX
  simp only [List.map_cons, List.map_nil, List.cons.injEq, and_true] at hl
  obtain ⟨q0, q1, q4⟩ := hl
  simp only [q0, q1, q4, hlen, pop_some, cb_lss]
  by_cases hc : i < n
  · have hc' : decide ((i : Int) < (n : Int)) = true := by simpa using hc
    rw [hc', cnd_true, hcia i hc, pop_some]
    refine hf i m' _ _ hc hI fun m2 h2 => ?_
    rw [cb_add, pop_some, wrap_id (by omega) (by omega)]
    refine hX _ _ _ ⟨rfl, i + 1, by omega, h2, by simp⟩ ?_
    simp only [List.map_cons, List.map_nil, q4]; omega
  · have hc' : decide ((i : Int) < (n : Int)) = false := by simpa using hc
    rw [hc', cnd_false, leave0, RK_ret]
    exact hK _ hI
end
end Go.Proofs.Ytjkfleibnojjaaa
end

section
open Go Go.Proofs Go.Proofs.Ytjkfleibnojjaaa
set_option maxRecDepth 100000
namespace Go.Proofs.Ytjkfleibnojjaaa
theorem store_own {P : Program} {t : TypeId} {m : CM} {b e : Nat} {c : List Value} {v : Value} {K : Value → CM → Prop} (h : Own m b c e) (hs : szOf P t = some (toL v).length) (hl : (toL v).length = c.length) (h1 : (toL v).all one = true)
    (hk : ∀ m', m'.next = m.next → (∀ x, x ≠ b → m'.get x = m.get x) → Own m' b (toL v) e → K undef m') : sop (cstore P t (.pointer (some ⟨b, 0, none⟩)) v m) K := by
  refine h.store hs (by omega) h1 fun m' hn hx ho => ?_
  have hsp : splice c 0 (toL v) = toL v := by
    have hd : c.drop (toL v).length = [] := List.drop_eq_nil_of_le (by omega)
    simp [splice, hd]
  rw [hsp] at ho
  exact hk m' hn hx ho
theorem lda {P : Program} {t : TypeId} {b : Nat} {l : List Value} {m : CM} (h : Own m b l 0) (ha : aggB P t = some true) (hs : szOf P t = some l.length) : cload P t (.pointer (some ⟨b, 0, none⟩)) m = some (.agg ⟨l⟩) := by
  have := h.cel.za ha hs (j := 0) (by omega)
  simpa using this
def KeepX (m : CM) (b : Nat) (m' : CM) : Prop := m.next ≤ m'.next ∧ ∀ x, x < m.next → x ≠ b → m'.get x = m.get x
theorem KeepX.refl (m : CM) (b : Nat) : KeepX m b m := ⟨Nat.le_refl _, fun _ _ _ => rfl⟩
theorem KeepX.le {m m1 m2 : CM} {b : Nat} (h : KeepX m b m1) (k : m1.le m2) : KeepX m b m2 := ⟨Nat.le_trans h.1 k.1, fun x hx hne => by rw [k.2 x (Nat.lt_of_lt_of_le hx h.1)]; exact h.2 x hx hne⟩
theorem KeepX.trans {m m1 m2 : CM} {b : Nat} (h : KeepX m b m1) (k : KeepX m1 b m2) : KeepX m b m2 := ⟨Nat.le_trans h.1 k.1, fun x hx hne => by rw [k.2 x (Nat.lt_of_lt_of_le hx h.1) hne]; exact h.2 x hx hne⟩
theorem KeepX.put {m m1 m2 : CM} {b : Nat} (h : KeepX m b m1) (hn : m2.next = m1.next) (hx : ∀ x, x ≠ b → m2.get x = m1.get x) : KeepX m b m2 := ⟨by rw [hn]; exact h.1, fun x hl hne => by rw [hx x hne]; exact h.2 x hl hne⟩
theorem Own.keepX {m m' : CM} {b c s : Nat} {l : List Value} (h : Own m c l s) (k : KeepX m b m') (hne : c ≠ b) : Own m' c l s := ⟨Nat.lt_of_lt_of_le h.1 k.1, by rw [k.2 c h.1 hne]; exact h.2⟩
theorem le_keepX {m0 m m' : CM} {b : Nat} (h : m0.le m) (k : KeepX m b m') (hb : m0.next ≤ b) : m0.le m' := ⟨Nat.le_trans h.1 k.1, fun y hy => by rw [k.2 y (Nat.lt_of_lt_of_le hy h.1) (by omega)]; exact h.2 y hy⟩
theorem le_view {m m8 M : CM} (h : m.le m8) (hn : M.next = m8.next) (hg : ∀ y, M.get y = if m.next ≤ y ∧ y < m.next + (m8.next - m.next) then m8.get y else m.get y) : m8.le M :=
  ⟨by omega, fun y hy => by
    rw [hg y]
    have := h.1
    split
    · rfl
    · exact (h.2 y (by omega)).symm⟩
theorem le_view2 {m m1 m2 M : CM} (h1 : m.le m1) (h2 : m1.le m2) (hn : M.next = m2.next) (hg : ∀ y, M.get y = if m1.next ≤ y ∧ y < m1.next + (m2.next - m1.next) then m2.get y else if m.next ≤ y ∧ y < m.next + (m1.next - m.next) then m1.get y else m.get y) : m2.le M :=
  ⟨by omega, fun y hy => by
    have q1 := h1.1; have q2 := h2.1
    rw [hg y]
    split
    · rfl
    · split
      · exact (h2.2 y (by omega)).symm
      · rw [h2.2 y (by omega), h1.2 y (by omega)]⟩
theorem lstw_own {P : Program} {t : TypeId} {M : CM} {b o e : Nat} {c : List Value} {v : Value} {K : Nat → CB → Prop} (hg : M.get b = some (.cells c e true)) (hs : szOf P t = some (toL v).length) (ho : o + (toL v).length ≤ c.length) (h1 : (toL v).all one = true) (hK : K b (.cells (splice c o (toL v)) e true)) :
    lstw (cstore P t (.pointer (some ⟨b, o, none⟩)) v M) (.pointer (some ⟨b, o, none⟩)) K := by
  refine ⟨M.put b (.cells (splice c o (toL v)) e true), b, o, _, ?_, rfl, by rw [CM.get_put, if_pos rfl], hK⟩
  simp [cstore, hs, cstoreL, hg, ho]; simpa using h1
theorem memL1 {m : CM} {E : List Ent} {j b nx : Nat} {x y : CB} {sel : Nat → Bool} (hs : sel j = true) (hg : (memJ m E sel nx).get b = some y) : memL m E [(j, b, x)] sel nx = (memJ m E sel nx).put b x := by
  simp only [memL, layW, lay1, hs, hg]
theorem Own.of {m : CM} {M : CM} {b e : Nat} {l : List Value} (h : Own m b l e) (ht : M.t = m.t) (hn : m.next ≤ M.next) : Own M b l e := ⟨Nat.lt_of_lt_of_le h.1 hn, by unfold CM.get; rw [ht]; exact h.2⟩
theorem leave_marks {P : Program} {rv : List RV} {R : CE → CM → Prop} : ∀ {Ds : List Nat} {m : CM}, (∀ D ∈ Ds, m.get D = some .dfr) → Ds.Pairwise (· ≠ ·) → (∀ m', m'.next = m.next → (∀ x, x ∉ Ds → m'.get x = m.get x) → leaveV P rv [] .ret m' R) → leaveV P rv (Ds.map mark) .ret m R
  | [], m, _, _, h => h m rfl fun _ _ => rfl
  | D :: Ds, m, hd, hn, h => by
    rw [List.map_cons]
    refine ⟨hd D (by simp), leave_marks (fun E hE => ?_) (List.pairwise_cons.1 hn).2 fun m' h1 h2 => h m' (by rw [h1]; simp) fun x hx => ?_⟩
    · rw [CM.get_set, if_neg (fun e => (List.pairwise_cons.1 hn).1 E hE e.symm)]
      exact hd E (by simp [hE])
    · simp only [List.mem_cons, not_or] at hx
      rw [h2 x hx.2, CM.get_set, if_neg hx.1]
theorem Own.put_ne {m : CM} {b e x : Nat} {l : List Value} {y : CB} (h : Own m b l e) (hx : b ≠ x) : Own (m.put x y) b l e := ⟨h.1, by rw [CM.get_put, if_neg hx]; exact h.2⟩
theorem cb_quo {P : Program} {t : TypeId} {x y : Operand} {k : IntKind} {a b : Int} (h : b ≠ 0) : cbin P .quo t x y (.int k a) (.int k b) = some (.int k (k.wrap (a.tdiv b))) := by simp [cbin, plainV, eqg, binOp_quo, Op.intDiv, h, pr_pure, chk]
theorem cun_neg {P : Program} {k : IntKind} {a : Int} : cun P .neg (.int k a) = some (.int k (k.wrap (-a))) := by simp [cun, plainV, Op.unary, Op.intArith, pr_pure, chk]
theorem cmm_min {P : Program} {a b : Int} : ∃ n, cmm P .min [.int .i64 a, .int .i64 b] = some (.int .i64 n) := by
  refine ⟨if b < a then b else a, ?_⟩
  simp only [cmm, plainL, plainV, Bool.and_self, if_true, Builtin.min_, List.foldlM_cons, List.foldlM_nil, Builtin.min2]
  rfl
theorem cmm_max {P : Program} {a b : Int} : ∃ n, cmm P .max [.int .i64 a, .int .i64 b] = some (.int .i64 n) := by
  refine ⟨if b > a then b else a, ?_⟩
  simp only [cmm, plainL, plainV, Bool.and_self, if_true, Builtin.max_, List.foldlM_cons, List.foldlM_nil, Builtin.max2]
  rfl
theorem splice_set {c : List Value} {k : Nat} {v : Value} (h : k < c.length) : splice c k [v] = c.set k v := by
  rw [List.set_eq_take_append_cons_drop, if_pos h]
  simp [splice]

theorem cb_rem {P : Program} {t : TypeId} {x y : Operand} {k : IntKind} {a b : Int} (h : b ≠ 0) : cbin P .rem t x y (.int k a) (.int k b) = some (.int k (a.tmod b)) := by simp [cbin, plainV, eqg, binOp_rem, Op.intDiv, h, pr_pure, chk]
theorem Sl.one {e n : Nat} {m : CM} {v : Value} {row : Nat → List Value} (h : Sl e m v n row) : Ytjkfleibnojjaaa.one v = true := by
  rcases h with ⟨rfl, _⟩ | ⟨b, o, q, c, own, rfl, _⟩ | ⟨b, rfl, _⟩ <;> rfl
theorem Sl.isS {e n : Nat} {m : CM} {v : Value} {row : Nat → List Value} (h : Sl e m v n row) : ∃ a l k, v = .slice a l k := by
  rcases h with ⟨rfl, _⟩ | ⟨b, o, q, c, own, rfl, _⟩ | ⟨b, rfl, _⟩ <;> exact ⟨_, _, _, rfl⟩
/-! ### A range over a function: its mark (block D) and its record (block D + 1), and all elder blocks but those that may change -/
structure LS (m8 : CM) (W : Nat → Prop) (R : CL) (M : CM) : Prop where
  nx : m8.next + 2 ≤ M.next
  d : M.get m8.next = some .dfr
  l : M.get (m8.next + 1) = some (.loop R)
  kp : ∀ x, x < m8.next → ¬ W x → M.get x = m8.get x
theorem alloc2_get {m8 : CM} {R : CL} {x : Nat} (h : x < m8.next) : ((m8.alloc .dfr).alloc (.loop R)).get x = m8.get x := by
  rw [CM.get_alloc, if_neg (by simp; omega), CM.get_alloc, if_neg (by omega)]
theorem LS.init {m8 : CM} {W : Nat → Prop} {R : CL} : LS m8 W R ((m8.alloc .dfr).alloc (.loop R)) :=
  ⟨by simp only [CM.next_alloc]; omega, by rw [CM.get_alloc, if_neg (by simp only [CM.next_alloc]; omega), CM.get_alloc, if_pos rfl], by rw [CM.get_alloc, if_pos (by simp only [CM.next_alloc])], fun x hx _ => alloc2_get hx⟩
theorem Own.alloc2 {m8 : CM} {R : CL} {b e : Nat} {l : List Value} (h : Own m8 b l e) : Own ((m8.alloc .dfr).alloc (.loop R)) b l e := ⟨by have := h.1; simp only [CM.next_alloc]; omega, by rw [alloc2_get h.1]; exact h.2⟩
theorem LS.le {m8 M M' : CM} {W : Nat → Prop} {R : CL} (h : LS m8 W R M) (k : M.le M') : LS m8 W R M' := by
  have h1 := h.nx
  exact ⟨Nat.le_trans h.nx k.1, by rw [k.2 _ (by omega)]; exact h.d, by rw [k.2 _ (by omega)]; exact h.l, fun x hx hw => by rw [k.2 x (by omega)]; exact h.kp x hx hw⟩
theorem LS.put {m8 M : CM} {W : Nat → Prop} {R R' : CL} (h : LS m8 W R M) : LS m8 W R' (M.put (m8.next + 1) (.loop R')) := by
  have h1 := h.nx
  exact ⟨h.nx, by rw [CM.get_put, if_neg (by omega)]; exact h.d, by rw [CM.get_put, if_pos rfl], fun x hx hw => by rw [CM.get_put, if_neg (by omega)]; exact h.kp x hx hw⟩
theorem LS.own {m8 M : CM} {W : Nat → Prop} {R : CL} {b e : Nat} {l : List Value} (h : LS m8 W R M) (ho : Own m8 b l e) (hw : ¬ W b) : Own M b l e :=
  ⟨by have := ho.1; have := h.nx; omega, by rw [h.kp b ho.1 hw]; exact ho.2⟩
/-- What was there before is there still. -/
theorem LS.since {m0 m8 M : CM} {W : Nat → Prop} {R : CL} (h : LS m8 W R M) (k : m0.le m8) (hw : ∀ x, W x → m0.next ≤ x) : m0.le M :=
  ⟨by have := h.nx; have := k.1; omega, fun x hx => by rw [h.kp x (by have := k.1; omega) (fun q => by have := hw x q; omega)]; exact k.2 x hx⟩
/-- A block that may change, or a new one, changes. -/
theorem LS.wr {m8 M M' : CM} {W : Nat → Prop} {R : CL} {b : Nat} (h : LS m8 W R M) (hn : M'.next = M.next) (hx : ∀ x, x ≠ b → M'.get x = M.get x) (hb : (b < m8.next ∧ W b) ∨ m8.next + 2 ≤ b) : LS m8 W R M' :=
  ⟨by rw [hn]; exact h.nx, by rw [hx _ (by omega)]; exact h.d, by rw [hx _ (by omega)]; exact h.l, fun x hl hw => by
    rw [hx x (fun e => by subst e; rcases hb with hb | hb
                          · exact hw hb.2
                          · omega)]
    exact h.kp x hl hw⟩
theorem LS.keepX {m8 M M' : CM} {W : Nat → Prop} {R : CL} {b : Nat} (h : LS m8 W R M) (k : KeepX M b M') (hb : (b < m8.next ∧ W b) ∨ m8.next + 2 ≤ b) : LS m8 W R M' := by
  have h1 := h.nx
  refine ⟨Nat.le_trans h.nx k.1, by rw [k.2 _ (by omega) (by omega)]; exact h.d, by rw [k.2 _ (by omega) (by omega)]; exact h.l, fun x hl hw => ?_⟩
  rw [k.2 x (by omega) (fun e => by subst e; rcases hb with hb | hb
                                    · exact hw hb.2
                                    · omega)]
  exact h.kp x hl hw
theorem Own.put_le {M : CM} {b e x : Nat} {l : List Value} {y : CB} (h : Own M b l e) (hx : b ≠ x) : Own (M.put x y) b l e := Own.put_ne h hx
/-! ### sum -/
section
variable {P : Program} {I T E : TypeId}
def sSum (P : Program) (I T E : TypeId) (R : CE → CM → Prop) (a0 a1 : Value) (m : CM) : Prop :=
  pop (clen P T a0 m) m (fun t8 m => loopA [1, 4, 7, 8, 9] (fun X1 ρ1 ds m => pop (cbin P BinOp.lss I (Operand.tmp 9) (Operand.tmp 8) (ρ1 9) (ρ1 8)) m (fun t10 m => cnd t10 (pop (cia P T (ρ1 7) (ρ1 9)) m (fun t12 m => pop (cload P E t12 m) m (fun t13 m => alw P E m (fun t6 m => sop (cstore P E t6 t13 m) (fun _ m => pop (cload P E t6 m) m (fun t17 m => callv P (ρ1 1) [(ρ1 9), t17] m (fun t18 m => pop (cbin P BinOp.add I (Operand.tmp 14) (Operand.tmp 18) (ρ1 4) t18) m (fun t19 m => pop (cbin P BinOp.add I (Operand.tmp 9) (Operand.const (Value.int IntKind.i64 1)) (ρ1 9) (.int .i64 1)) m (fun t20 m => X1 [(ρ1 1), t19, (ρ1 7), (ρ1 8), t20] ds m))) (fun ch m => leaveV P [.v (ρ1 4)] ds (.pan ch) m R))))))) (leaveV P [.v (ρ1 4)] ds .ret m R))) [a1, (.int .i64 0), a0, t8, (.int .i64 0)] [] m)
/-- sum: some number. -/
theorem sum_ok {g : FuncId} (hc : ∀ {a0 a1 : Value} {m : CM} {K : Value → CM → Prop} {Kp : List PanicEntry → CM → Prop}, sSum P I T E (RK K Kp) a0 a1 m → callw P g [a0, a1] m K Kp)
    {e : Nat} {a : Bool} {z : List Value} (un : P.underlying T = some (.slice E)) (sz : szOf P E = some e) (ag : aggB P E = some a) (he : a = false → e = 1) (ze : zeroL P E = some z) (hz : z.length = e)
    {m : CM} {v f : Value} {n : Nat} {row : Nat → List Value} (hn : n < 4611686018427387904) (h1 : ∀ i, i < n → (row i).all one = true) (hs : Sl e m v n row)
    (hf : ∀ (i : Nat) (m' : CM) (K : Value → CM → Prop) (Kp : List PanicEntry → CM → Prop), i < n → m.le m' → (∀ m2 (c : Int), m'.le m2 → K (.int .i64 c) m2) → callv P f [.int .i64 i, elv a (row i)] m' K Kp)
    {K : Value → CM → Prop} {Kp : List PanicEntry → CM → Prop} (hK : ∀ m' (x : Int), m.le m' → K (.int .i64 x) m') : callw P g [v, f] m K Kp := by
  refine hc ?_
  unfold sSum
  simp only [hs.len un, pop_some]
  refine loopA_of (fun l ds m' => ds = [] ∧ m.le m' ∧ ∃ i : Nat, ∃ c : Int, i ≤ n ∧ l = [f, .int .i64 c, v, .int .i64 n, .int .i64 i])
    (fun l _ => match l with | [_, _, _, _, .int _ i] => n - i.toNat | _ => 0) ⟨rfl, .refl m, 0, 0, by omega, rfl⟩ ?_
  rintro X ρ ds m' ⟨rfl, hle, i, c, hi, hl⟩ hX
  simp only [List.map_cons, List.map_nil, List.cons.injEq, and_true] at hl
  obtain ⟨q1, q4, q7, q8, q9⟩ := hl
  simp only [q1, q4, q7, q8, q9, cb_lss, pop_some]
  by_cases hci : i < n
  · have hc' : decide ((i : Int) < (n : Int)) = true := by simpa using hci
    obtain ⟨b, o, hia, hcel, hlen⟩ := (hs.le hle).at un sz (i := i) (by omega) (by omega)
    simp only [Int.toNat_natCast] at hcel hlen
    rw [hc', cnd_true, hia, pop_some, hcel.elv ag sz hlen he, pop_some]
    obtain ⟨e1, e2⟩ := elv_toL he hlen (h1 i hci)
    refine alw_of ze fun b7 m1 hle1 hb7 ho7 => ?_
    refine ho7.store (by rw [e1, hlen]; exact sz) (by rw [e1]; omega) e2 fun m2 hn2 hx2 ho2 => ?_
    rw [e1] at ho2
    have hsp : splice z 0 (row i) = row i := by
      have hd : z.drop (row i).length = [] := List.drop_eq_nil_of_le (by omega)
      simp [splice, hd]
    rw [hsp] at ho2
    have hle2 := le_of_put hle1 hb7 hn2 hx2
    have hld : cload P E (.pointer (some ⟨b7, 0, none⟩)) m2 = some (elv a (row i)) := ho2.cel.elv ag sz hlen he
    rw [hld, pop_some]
    refine hf i m2 _ _ hci (hle.trans hle2) fun m3 c3 hle3 => ?_
    rw [cb_add, pop_some, cb_add, pop_some, wrap_id (n := (i : Int) + 1) (by omega) (by omega)]
    refine hX _ _ _ ⟨rfl, (hle.trans hle2).trans hle3, i + 1, _, by omega, by simp; rfl⟩ ?_
    simp only [List.map_cons, List.map_nil, q9]; omega
  · have hc' : decide ((i : Int) < (n : Int)) = false := by simpa using hci
    rw [hc', cnd_false, leave1, RK_ret]
    exact hK _ _ hle
def sSumI (P : Program) (I T : TypeId) (R : CE → CM → Prop) (a0 a1 : Value) (m : CM) : Prop :=
  pop (clen P T a0 m) m (fun t8 m => loopA [1, 4, 7, 8, 9] (fun X1 ρ1 ds m => pop (cbin P BinOp.lss I (Operand.tmp 9) (Operand.tmp 8) (ρ1 9) (ρ1 8)) m (fun t10 m => cnd t10 (pop (cia P T (ρ1 7) (ρ1 9)) m (fun t12 m => pop (cload P I t12 m) m (fun t13 m => callv P (ρ1 1) [(ρ1 9), t13] m (fun t18 m => pop (cbin P BinOp.add I (Operand.tmp 14) (Operand.tmp 18) (ρ1 4) t18) m (fun t19 m => pop (cbin P BinOp.add I (Operand.tmp 9) (Operand.const (Value.int IntKind.i64 1)) (ρ1 9) (.int .i64 1)) m (fun t20 m => X1 [(ρ1 1), t19, (ρ1 7), (ρ1 8), t20] ds m))) (fun ch m => leaveV P [.v (ρ1 4)] ds (.pan ch) m R)))) (leaveV P [.v (ρ1 4)] ds .ret m R))) [a1, (.int .i64 0), a0, t8, (.int .i64 0)] [] m)
theorem sumI_ok {g : FuncId} (hc : ∀ {a0 a1 : Value} {m : CM} {K : Value → CM → Prop} {Kp : List PanicEntry → CM → Prop}, sSumI P I T (RK K Kp) a0 a1 m → callw P g [a0, a1] m K Kp)
    (un : P.underlying T = some (.slice I)) (sz : szOf P I = some 1) (ag : aggB P I = some false)
    {m : CM} {v f : Value} {n : Nat} {x : Nat → Int} (hn : n < 4611686018427387904) (hs : Sl 1 m v n (fun i => [.int .i64 (x i)]))
    (hf : ∀ (i : Nat) (m' : CM) (K : Value → CM → Prop) (Kp : List PanicEntry → CM → Prop), i < n → m.le m' → (∀ m2 (c : Int), m'.le m2 → K (.int .i64 c) m2) → callv P f [.int .i64 i, .int .i64 (x i)] m' K Kp)
    {K : Value → CM → Prop} {Kp : List PanicEntry → CM → Prop} (hK : ∀ m' (x : Int), m.le m' → K (.int .i64 x) m') : callw P g [v, f] m K Kp := by
  refine hc ?_
  unfold sSumI
  simp only [hs.len un, pop_some]
  refine loopA_of (fun l ds m' => ds = [] ∧ m.le m' ∧ ∃ i : Nat, ∃ c : Int, i ≤ n ∧ l = [f, .int .i64 c, v, .int .i64 n, .int .i64 i])
    (fun l _ => match l with | [_, _, _, _, .int _ i] => n - i.toNat | _ => 0) ⟨rfl, .refl m, 0, 0, by omega, rfl⟩ ?_
  rintro X ρ ds m' ⟨rfl, hle, i, c, hi, hl⟩ hX
  simp only [List.map_cons, List.map_nil, List.cons.injEq, and_true] at hl
  obtain ⟨q1, q4, q7, q8, q9⟩ := hl
  simp only [q1, q4, q7, q8, q9, cb_lss, pop_some]
  by_cases hci : i < n
  · have hc' : decide ((i : Int) < (n : Int)) = true := by simpa using hci
    obtain ⟨b, o, hia, hcel, hlen⟩ := (hs.le hle).at un sz (i := i) (by omega) (by omega)
    simp only [Int.toNat_natCast] at hcel hlen
    rw [hc', cnd_true, hia, pop_some, hcel.elv ag sz hlen (fun _ => rfl), pop_some]
    refine hf i m' _ _ hci hle fun m3 c3 hle3 => ?_
    rw [cb_add, pop_some, cb_add, pop_some, wrap_id (n := (i : Int) + 1) (by omega) (by omega)]
    refine hX _ _ _ ⟨rfl, hle.trans hle3, i + 1, _, by omega, by simp; rfl⟩ ?_
    simp only [List.map_cons, List.map_nil, q9]; omega
  · have hc' : decide ((i : Int) < (n : Int)) = false := by simpa using hci
    rw [hc', cnd_false, leave1, RK_ret]
    exact hK _ _ hle
end

/-! ### What an operation of a drawn region looks at -/
theorem get_t {a b : CM} (h : a.t = b.t) (y : Nat) : a.get y = b.get y := by simp only [CM.get, h]
theorem view0 {m : CM} {E : List Ent} {sel : Nat → Bool} {nx : Nat} (hn : m.next ≤ nx) (hE : (memJ m E sel nx).t = m.t) : m.le (memJ m E sel nx) := ⟨hn, fun b _ => get_t hE b⟩
theorem view1 {m m1 : CM} {E : List Ent} {sel : Nat → Bool} {nx : Nat} (h1 : m.le m1) (hn : m1.next ≤ nx) (hE : (memJ m E sel nx).t = (m.over m.next (m1.next - m.next) m1).t) : m1.le (memJ m E sel nx) :=
  ⟨hn, fun y hy => by
    rw [get_t hE, get_over]
    have := h1.1
    split
    · rfl
    · exact (h1.2 y (by omega)).symm⟩
theorem view2 {m m1 m2 : CM} {E : List Ent} {sel : Nat → Bool} {nx : Nat} (h1 : m.le m1) (h2 : m1.le m2) (hn : m2.next ≤ nx) (hE : (memJ m E sel nx).t = ((m.over m.next (m1.next - m.next) m1).over m1.next (m2.next - m1.next) m2).t) : m2.le (memJ m E sel nx) :=
  ⟨hn, fun y hy => by
    have q1 := h1.1; have q2 := h2.1
    rw [get_t hE, get_over, get_over]
    split
    · rfl
    · split
      · exact (h2.2 y (by omega)).symm
      · rw [h2.2 y (by omega), h1.2 y (by omega)]⟩
theorem memL2 {m : CM} {E : List Ent} {j k b c nx : Nat} {x y z u : CB} {sel : Nat → Bool} (hs : sel j = true) (hk : sel k = true) (hg : (memJ m E sel nx).get b = some y) (hc : (memJ m E sel nx).get c = some z) (hne : c ≠ b) : memL m E [(j, b, x), (k, c, u)] sel nx = ((memJ m E sel nx).put b x).put c u := by
  have h2 : ((memJ m E sel nx).put b x).get c = some z := by rw [CM.get_put, if_neg hne]; exact hc
  simp only [memL, layW, lay1, hs, hk, hg, h2]
theorem Own.sub {m : CM} {b e : Nat} {l : List Value} (h : Own m b l e) {m' : CM} (hn : m'.next = m.next) (hx : m'.get b = m.get b) : Own m' b l e := ⟨by rw [hn]; exact h.1, by rw [hx]; exact h.2⟩

theorem Cel.s0 {P : Program} {t : TypeId} {m : CM} {b o : Nat} {l : List Value} {v : Value} (h : Cel m b o l) (ha : aggB P t = some false) (hv : l[0]? = some v) : cload P t (.pointer (some ⟨b, o, none⟩)) m = some v := h.s ha (j := 0) hv
/-- Two parts that were made side by side. -/
theorem viewS {m m1 m2 : CM} {E : List Ent} {sel : Nat → Bool} (h1 : m.le m1) (hn : m1.next ≤ m2.next) (hE : (memJ m E sel m2.next).t = ((m.over m.next (m1.next - m.next) m1).over m1.next (m2.next - m1.next) m2).t) :
    m1.le (memJ m E sel m2.next) ∧ ∀ y, m1.next ≤ y → y < m2.next → (memJ m E sel m2.next).get y = m2.get y := by
  have q1 := h1.1
  refine ⟨⟨hn, fun y hy => ?_⟩, fun y q2 q3 => ?_⟩
  · rw [get_t hE, get_over, get_over, if_neg (by omega)]
    split
    · rfl
    · exact (h1.2 y (by omega)).symm
  · rw [get_t hE, get_over, if_pos (by omega)]
theorem Own.viewS1 {m m1 m2 : CM} {E : List Ent} {sel : Nat → Bool} {b e : Nat} {l : List Value} (ho : Own m1 b l e) (h1 : m.le m1) (hn : m1.next ≤ m2.next) (hE : (memJ m E sel m2.next).t = ((m.over m.next (m1.next - m.next) m1).over m1.next (m2.next - m1.next) m2).t) : Own (memJ m E sel m2.next) b l e := ho.le (viewS h1 hn hE).1
theorem Own.viewS2 {m m1 m2 : CM} {E : List Ent} {sel : Nat → Bool} {b e : Nat} {l : List Value} (ho : Own m2 b l e) (hb : m1.next ≤ b) (h1 : m.le m1) (hn : m1.next ≤ m2.next) (hE : (memJ m E sel m2.next).t = ((m.over m.next (m1.next - m.next) m1).over m1.next (m2.next - m1.next) m2).t) : Own (memJ m E sel m2.next) b l e :=
  ⟨ho.1, by rw [(viewS h1 hn hE).2 b hb ho.1]; exact ho.2⟩

/-! ### Rows of a block of one's own -/
theorem splice_getE {c r : List Value} {o k : Nat} (h : o + r.length ≤ c.length) : (splice c o r)[k]? = if o ≤ k ∧ k < o + r.length then r[k - o]? else c[k]? := by
  simp only [splice]
  by_cases h1 : k < o
  · rw [if_neg (by omega), List.append_assoc, List.getElem?_append_left (by simp; omega), List.getElem?_take, if_pos h1]
  · by_cases h2 : k < o + r.length
    · rw [if_pos ⟨by omega, h2⟩, List.append_assoc, List.getElem?_append_right (by simp; omega), List.getElem?_append_left (by simp; omega)]
      congr 1; simp; omega
    · rw [if_neg (by omega), List.append_assoc, List.getElem?_append_right (by simp; omega), List.getElem?_append_right (by simp; omega), List.getElem?_drop]
      congr 1; simp; omega
theorem splice_len {c r : List Value} {o : Nat} (h : o + r.length ≤ c.length) : (splice c o r).length = c.length := by simp [splice]; omega
theorem row_in {e n i : Nat} (hi : i < n) : i * e + e ≤ n * e := by
  have : (i + 1) * e ≤ n * e := Nat.mul_le_mul_right e hi
  rw [Nat.add_mul, Nat.one_mul] at this; exact this
theorem rowE_get {e i p : Nat} {c : List Value} : (rowE e c i)[p]? = if p < e then c[i * e + p]? else none := by
  simp only [rowE, List.getElem?_take, List.getElem?_drop]
theorem rowE_splice {e n i j : Nat} {c r : List Value} (hc : c.length = n * e) (hr : r.length = e) (hi : i < n) : rowE e (splice c (i * e) r) j = if j = i then r else rowE e c j := by
  have hin := row_in (e := e) hi
  apply List.ext_getElem?
  intro p
  rw [rowE_get]
  by_cases hp : p < e
  · rw [if_pos hp, splice_getE (by omega)]
    by_cases hj : j = i
    · subst hj
      rw [if_pos rfl, if_pos ⟨by omega, by omega⟩]
      congr 1; omega
    · rw [if_neg hj, rowE_get, if_pos hp]
      rcases Nat.lt_or_gt_of_ne hj with h | h
      · have := row_in (e := e) h
        rw [if_neg (by omega)]
      · have := row_in (e := e) h
        rw [if_neg (by omega)]
  · rw [if_neg hp]
    split
    · rw [List.getElem?_eq_none (by omega)]
    · rw [rowE_get, if_neg hp]
section
variable {P : Program} {T E : TypeId}
theorem makeS_of {e n by' : Nat} {z : List Value} {m : CM} {K : Value → CM → Prop} (un : P.underlying T = some (.slice E)) (sz : szOf P E = some (e + 1)) (ze : zeroL P E = some z) (hz : z.length = e + 1) (hby : bytesOf' P E = by') (h64 : by' ≤ 65536) (hn : n ≤ 2097152)
    (hK : ∀ m', m.le m' → Own m' m.next (zeros z n) (e + 1) → (zeros z n).length = n * (e + 1) → K (.slice (some ⟨m.next, 0, none⟩) n 0) m') : vop (cmakeS P T (.int .i64 n) (.int .i64 n) m) K := by
  have hmk : cmakeS P T (.int .i64 n) (.int .i64 n) m = some (.slice (some ⟨m.next, 0, none⟩) n 0, m.alloc (.cells (zeros z n) (e + 1) true)) := by
    simp only [cmakeS, un, sz, ze, hby, Int.toNat_natCast]
    rw [if_pos]
    refine ⟨hz, by omega, by omega, by omega, ?_⟩
    have : (by' : Int) * n ≤ (65536 : Int) * 2097152 := Int.mul_le_mul (by omega) (by omega) (by omega) (by omega)
    exact Int.le_trans this (by decide)
  refine ⟨_, _, hmk, hK _ (CM.le_alloc ..) ⟨by simp, by rw [CM.get_alloc, if_pos rfl]⟩ (by rw [zeros_length, hz])⟩
/-- A slice whose rows lie in a block of one's own. -/
theorem Own.sl {m : CM} {b e n : Nat} {c : List Value} (ho : Own m b c e) (hl : c.length = n * e) {k : Nat} : Sl e m (.slice (some ⟨b, 0, none⟩) n k) n (rowE e c) :=
  .inr (.inl ⟨b, 0, k, c, true, rfl, ho.1, ho.2, fun i hi => ⟨rowE_len hl hi, fun j hj => by rw [rowE_get, if_pos hj, Nat.zero_add]⟩⟩)
theorem cia_own {b e n k : Nat} {i : Int} (un : P.underlying T = some (.slice E)) (sz : szOf P E = some e) (h0 : 0 ≤ i) (h1 : i < n) : cia P T (.slice (some ⟨b, 0, none⟩) n k) (.int .i64 i) = some (.pointer (some ⟨b, i.toNat * e, none⟩)) := by
  simp [cia, un, sz, h0, h1]
/-- One row is stored. -/
theorem Own.row_store {t : TypeId} {m : CM} {b e n i : Nat} {c : List Value} {v : Value} {K : Value → CM → Prop} (ho : Own m b c e) (hl : c.length = n * e) (hi : i < n) (hs : szOf P t = some e) (hv : (toL v).length = e) (h1 : (toL v).all one = true)
    (hK : ∀ m' c', m'.next = m.next → (∀ x, x ≠ b → m'.get x = m.get x) → Own m' b c' e → c'.length = n * e → (∀ j, rowE e c' j = if j = i then toL v else rowE e c j) → K undef m') : sop (cstore P t (.pointer (some ⟨b, i * e, none⟩)) v m) K := by
  have hin := row_in (e := e) hi
  refine ho.store (by rw [hv]; exact hs) (by omega) h1 fun m' hn hx ho' => hK m' _ hn hx ho' (by rw [splice_len (by omega)]; exact hl) fun j => rowE_splice hl hv hi
end

/-! ### What a function leaves -/
inductive RVs (P : Program) (m : CM) : List RV → List Value → Prop where
  | nil : RVs P m [] []
  | v {x : Value} {rv : List RV} {vs : List Value} (h : RVs P m rv vs) : RVs P m (.v x :: rv) (x :: vs)
  | c {t : TypeId} {p x : Value} {rv : List RV} {vs : List Value} (hx : cload P t p m = some x) (h : RVs P m rv vs) : RVs P m (.c t p :: rv) (x :: vs)
theorem resV_rvs {P : Program} {m : CM} : ∀ {rv : List RV} {vs : List Value} {K : List Value → Prop}, RVs P m rv vs → K vs → resV P m rv K
  | _, _, _, .nil, h => h
  | _, _, K, .v (x := x) t, h => resV_rvs (K := fun l => K (x :: l)) t h
  | _, _, K, .c (x := x) hx t, h => ⟨x, hx, resV_rvs (K := fun l => K (x :: l)) t h⟩
theorem leave_rvs {P : Program} {m : CM} {rv : List RV} {vs : List Value} {R : CE → CM → Prop} (h : RVs P m rv vs) (hR : R (.ret (tupL vs)) m) : leaveV P rv [] .ret m R := resV_rvs (K := fun vs => R (.ret (tupL vs)) m) h hR
/-- … and its ranges' marks. -/
theorem leave_rvm {P : Program} {m : CM} {rv : List RV} {Ds : List Nat} {R : CE → CM → Prop} {vs : List Value} (hd : ∀ D ∈ Ds, m.get D = some .dfr) (hn : Ds.Pairwise (· ≠ ·)) (h : ∀ m', m'.next = m.next → (∀ x, x ∉ Ds → m'.get x = m.get x) → RVs P m' rv vs ∧ R (.ret (tupL vs)) m') : leaveV P rv (Ds.map mark) .ret m R :=
  leave_marks hd hn fun m' h1 h2 => leave_rvs (h m' h1 h2).1 (h m' h1 h2).2

theorem getJ0 {m : CM} {E : List Ent} {sel : Nat → Bool} {nx b : Nat} {x : CB} (h : m.get b = some x) (ht : (memJ m E sel nx).t = m.t) : (memJ m E sel nx).get b = some x := (get_t ht b).trans h

/-- A call of out in a drawn region. -/
theorem outJ {P : Program} {T I : TypeId} (un : P.underlying T = some (.slice I)) (sz : szOf P I = some 1) (ze : zeroL P I = some [.int .i64 0]) {F : FuncId} (hF : OutOk P F) {xs : List Int} {k : Nat} {ps : List (Nat × Value)} (hx : xs.length = k) (hk : k ≤ 1000)
    (hc : cfill (fun i => some (i * 1, 1)) (zeros [.int .i64 0] k) ps = some (xs.map (.int .i64))) {m : CM} {lo hi : Int} {Mv : Value → CM → CM} {Kc : Value → CM → Value → CM → Prop} {Kp : Value → CM → List PanicEntry → CM → Prop} (hV : ∀ t m1, m.le m1 → m1.le (Mv t m1))
    (h : ∀ t m1 b m', m.le m1 → (Mv t m1).le m' → m.le m' → (b = false → ∀ x ∈ xs, lo ≤ x ∧ x ≤ hi) → Kc t m1 (.bool b) m') : vop (cbuildS P T k ps m) (fun t m1 => m.le m1 ∧ callw P F [.int .i64 lo, .int .i64 hi, t] (Mv t m1) (Kc t m1) (Kp t m1)) := by
  refine lit_of un (e := 0) sz ze rfl (by omega) hc fun b m1 hle hb ho => ⟨hle, ?_⟩
  subst hx
  have hle2 := hV (.slice (some ⟨b, 0, none⟩) xs.length 0) m1 hle
  refine hF _ _ _ _ lo hi _ _ (sl_ints (ho.le hle2) rfl) (by omega) fun m' b' hle' hb' => h _ m1 b' m' hle hle' (hle.trans (hle2.trans hle')) fun e x hxm => ?_
  obtain ⟨i, hi, rfl⟩ := List.mem_iff_getElem.1 hxm
  have := hb' e i hi
  simpa [List.getD_eq_getElem?_getD, List.getElem?_eq_getElem hi] using this
theorem get_overE_lo {m : CM} {e : Ent} {b : Nat} (h : b < e.lo) : (overE m e).get b = m.get b := by
  rw [get_overE]; rw [if_neg (by omega)]
theorem memJ_lo (m0 : CM) : ∀ (E : List Ent) (sel : Nat → Bool) (nx b : Nat), (∀ e ∈ E, b < e.lo) → (memJ m0 E sel nx).get b = m0.get b := by
  intro E sel nx b hE
  have : ∀ (E : List Ent) (i : Nat) (m : CM), (∀ e ∈ E, b < e.lo) → (overL sel i E m).get b = m.get b := by
    intro E
    induction E with
    | nil => intro i m _; rfl
    | cons e E ih =>
      intro i m hE
      rw [overL_cons, ih _ _ (fun x hx => hE x (by simp [hx]))]
      split
      · exact get_overE_lo (hE e (by simp))
      · rfl
  exact this E 0 m0 hE
theorem memJ_le {m : CM} {E : List Ent} {sel : Nat → Bool} {nx : Nat} (hn : m.next ≤ nx) (hE : ∀ e ∈ E, m.next ≤ e.lo) : m.le (memJ m E sel nx) :=
  ⟨hn, fun b hb => memJ_lo m E sel nx b fun e he => Nat.lt_of_lt_of_le hb (hE e he)⟩

theorem view3 {m m1 m2 m3 A M' : CM} (hA : A.t = ((m.over m.next (m1.next - m.next) m1).over m1.next (m2.next - m1.next) m2).t) (hAn : A.next = m2.next) (h : A.le m3) (hn : m3.next ≤ M'.next)
    (hE : M'.t = (((m.over m.next (m1.next - m.next) m1).over m1.next (m2.next - m1.next) m2).over m2.next (m3.next - m2.next) m3).t) : m3.le M' :=
  ⟨hn, fun y hy => by
    rw [get_t hE, get_over]
    have := h.1
    split
    · rfl
    · rw [h.2 y (by omega)]; exact (get_t hA y).symm⟩
/-- A slice of a call's own: nil, or a block that is not elder than n0; numbers only. -/
def ResV (e : Nat) (m0 m1 : CM) (v : Value) : Prop := ∃ bn cs n, HVe e m1 v bn cs n ∧ (∀ y, bn = some y → m0.next ≤ y) ∧ n ≤ 100 ∧ ∀ u ∈ cs, ∃ k, u = .int .i64 k
theorem ResV.nil {e : Nat} {m0 m1 : CM} : ResV e m0 m1 (.slice none 0 0) := ⟨none, [], 0, .nil, (by simp), (by omega), (by simp)⟩

/-- A call of out, where what follows names the slice. -/
theorem outD {P : Program} {T I : TypeId} (un : P.underlying T = some (.slice I)) (sz : szOf P I = some 1) (ze : zeroL P I = some [.int .i64 0]) {F : FuncId} (hF : OutOk P F) {xs : List Int} {k : Nat} {ps : List (Nat × Value)} (hx : xs.length = k) (hk : k ≤ 1000)
    (hc : cfill (fun i => some (i * 1, 1)) (zeros [.int .i64 0] k) ps = some (xs.map (.int .i64))) {m : CM} {lo hi : Int} {Kc : Value → CM → Value → CM → Prop} {Kp : Value → CM → List PanicEntry → CM → Prop}
    (h : ∀ t m1 b m', m.le m' → (b = false → ∀ x ∈ xs, lo ≤ x ∧ x ≤ hi) → Kc t m1 (.bool b) m') : vop (cbuildS P T k ps m) (fun t m1 => callw P F [.int .i64 lo, .int .i64 hi, t] m1 (Kc t m1) (Kp t m1)) := by
  refine lit_of un (e := 0) sz ze rfl (by omega) hc fun b m1 hle hb ho => ?_
  subst hx
  refine hF m1 _ _ _ lo hi _ _ (sl_ints ho rfl) (by omega) fun m' b' hle' hb' => h _ m1 b' m' (hle.trans hle') fun e x hxm => ?_
  obtain ⟨i, hi, rfl⟩ := List.mem_iff_getElem.1 hxm
  have := hb' e i hi
  simpa [List.getD_eq_getElem?_getD, List.getElem?_eq_getElem hi] using this
end Go.Proofs.Ytjkfleibnojjaaa
end

section
open Go Go.Proofs Go.Proofs.Ytjkfleibnojjaaa
set_option maxRecDepth 100000
namespace Go.Proofs.Ytjkfleibnojjaaa
/-! ### What the harness' closures leave -/
theorem own_fw {m m' : CM} {h b e : Nat} {l : List Value} (ho : Own m b l e) (hb : b ≠ h) (hf : FW (keepBut m h) m') : Own m' b l e := by
  obtain ⟨h1, h2⟩ := hf _ _ (keepBut_get ho.1 hb)
  exact ⟨h1, by rw [h2]; exact ho.2⟩
theorem lm : (1000 : Nat) ≤ lim := by decide
theorem lim62 : lim < 4611686018427387904 := by decide
theorem row_int {e : Nat} {c : List Value} {i : Nat} (h : ∀ u ∈ c, ∃ k, u = .int .i64 k) : ∀ u ∈ rowE e c i, ∃ k, u = .int .i64 k := fun u hu => h u (List.mem_of_mem_drop (List.mem_of_mem_take hu))
theorem wtlN1 {F : Keep} {l : List Value} (hl : l.length = 1) (h : ∀ u ∈ l, ∃ k, u = .int .i64 k) : WTL F [.i] 1 l := by
  match l, hl with
  | [a], _ =>
    obtain ⟨x, rfl⟩ := h a (by simp)
    exact .cons (k := 1) (k' := 0) (.i x) .nil
theorem wtlN2 {F : Keep} {l : List Value} (hl : l.length = 2) (h : ∀ u ∈ l, ∃ k, u = .int .i64 k) : WTL F [.i, .i] 2 l := by
  match l, hl with
  | [a, b], _ =>
    obtain ⟨x, rfl⟩ := h a (by simp)
    obtain ⟨y, rfl⟩ := h b (by simp)
    exact .cons (k := 1) (k' := 1) (.i x) (.cons (k := 1) (k' := 0) (.i y) .nil)
theorem HVe.wt1 {m : CM} {h n : Nat} {v : Value} {bn : Option Nat} {c : List Value} (hv : HVe 1 m v bn c n) (hb : ∀ y, bn = some y → y ≠ h) (hi : ∀ u ∈ c, ∃ k, u = .int .i64 k) : WT (keepBut m h) (.sl [.i]) (1 + sumN (fun _ => 1) n) v :=
  hv.wt hb rfl (by decide) fun i hin => wtlN1 (rowE_len hv.len hin) (row_int hi)
theorem HVe.wt2 {m : CM} {h n : Nat} {v : Value} {bn : Option Nat} {c : List Value} (hv : HVe 2 m v bn c n) (hb : ∀ y, bn = some y → y ≠ h) (hi : ∀ u ∈ c, ∃ k, u = .int .i64 k) : WT (keepBut m h) (.sl [.i, .i]) (1 + sumN (fun _ => 2) n) v :=
  hv.wt hb rfl (by decide) fun i hin => wtlN2 (rowE_len hv.len hin) (row_int hi)
theorem HVe.to {e n m0 : Nat} {m1 M : CM} {v : Value} {bn : Option Nat} {c : List Value} (hv : HVe e m1 v bn c n) (hb : ∀ y, bn = some y → m0 ≤ y) (hc : ∀ x c e o, m0 ≤ x → x < m1.next → m1.get x = some (.cells c e o) → M.get x = some (.cells c e o)) (hn : m1.next ≤ M.next) : HVe e M v bn c n := by
  cases hv with
  | nil => exact .nil
  | blk ho hl => exact .blk ⟨Nat.lt_of_lt_of_le ho.1 hn, hc _ _ _ _ (hb _ rfl) ho.1 ho.2⟩ hl
section
variable {P : Program}
theorem pI {g : FuncId} (hg : PutOk P g [.i] false) {F : Keep} {h B : Nat} {m : CM} {n : Int} {K : Value → CM → Prop} {Kp : List PanicEntry → CM → Prop} (hp : Hp F h B m) (hB : B + 1 ≤ lim) (hK : ∀ u m', Hp F h (B + 1) m' → K u m') : callw P g [.pointer (some ⟨h, 0, none⟩), .int .i64 n] m K Kp :=
  hg F h B m [.int .i64 n] 1 K Kp hp (.cons (.i n) .nil) hB hK
theorem pII {g : FuncId} (hg : PutOk P g [.i, .i] true) {F : Keep} {h B : Nat} {m : CM} {a b : Int} {K : Value → CM → Prop} {Kp : List PanicEntry → CM → Prop} (hp : Hp F h B m) (hB : B + 2 ≤ lim) (hK : ∀ u m', Hp F h (B + 2) m' → K u m') : callw P g [.pointer (some ⟨h, 0, none⟩), .agg ⟨[.int .i64 a, .int .i64 b]⟩] m K Kp :=
  hg F h B m [.int .i64 a, .int .i64 b] 2 K Kp hp (.cons (.i a) (.cons (.i b) .nil)) hB hK
/-- A closure that gives a slice (or a thing that is written down by PUT), and its own that writes over it; R: what comes behind. -/
theorem clo_slice {T PUT g : Nat} {tv : CT} (ze : zeroL P T = some [.slice none 0 0]) (sz : szOf P T = some 1) (ag : aggB P T = some false) (hput : PutOk P PUT [tv] false)
    {m0 m1 : CM} {h k : Nat} {v : Value} {W : Nat → Prop} (hoh : Own m0 h [.slice none 0 0, .slice none 0 0] 0) (hle1 : m0.le m1) (h1v : toL v = [v] ∧ (toL v).all one = true)
    (hwt : ∀ m3, m1.le m3 → WT (keepBut m3 h) tv k v) (hk : k ≤ lim) (hW : ∀ x, W x → m0.next ≤ x ∧ x < m1.next)
    (hwipe : ∀ (t : Nat) (M : CM), Own M t [v] 0 → ¬ W t → (∀ x c e o, m0.next ≤ x → x < m1.next → m1.get x = some (.cells c e o) → M.get x = some (.cells c e o)) → m1.next ≤ M.next →
      ∀ (K : Value → CM → Prop) (Kp : List PanicEntry → CM → Prop), (∀ m', m'.next = M.next → (∀ x, ¬ W x → m'.get x = M.get x) → K (.tuple ⟨[]⟩) m') → callw P g [.pointer (some ⟨t, 0, none⟩)] M K Kp)
    {R : Value → CM → Prop} {Kp1 : List PanicEntry → CM → Prop}
    (hR : ∀ (p : Value) (F : Keep) (m4 : CM), Hp F h k m4 → (∀ B m5, Hp F h B m5 → B ≤ lim → CloPost P m0 h (.func (.func g) ⟨[]⟩ ⟨[p]⟩) m5) → R p m4) :
    alw P T m1 (fun t4 m => sop (cstore P T t4 v m) (fun _ m => pop (cload P T t4 m) m (fun t17 m => callw P PUT [.pointer (some ⟨h, 0, none⟩), t17] m (fun _ m => R t4 m) Kp1))) := by
  obtain ⟨e1, e2⟩ := h1v
  have hhm := hoh.1
  have h1n := hle1.1
  refine alw_of ze fun b4 m2 hle2 hb4 ho4 => store_own ho4 (by simp [e1, sz]) (by simp [e1]) e2 fun m3 hn3 hx3 ho3 => ?_
  rw [e1] at ho3
  have h4h : b4 ≠ h := by omega
  have hle13 : m1.le m3 := le_of_put hle2 hb4 hn3 hx3
  have hle3 : m0.le m3 := hle1.trans hle13
  rw [ho3.cel.z ag rfl, pop_some]
  refine hput (keepBut m3 h) h 0 m3 [v] k _ _ (hp_but (hoh.le hle3)) (.cons (k' := 0) (hwt m3 hle13) .nil) (by omega) fun _ m4 hp => hR _ (keepBut m3 h) m4 (by rw [Nat.zero_add] at hp; exact hp) fun B m5 hp hB => ?_
  have h13n := hle13.1
  refine clo_of hoh.1 (fun x hx hne => by rw [keepBut_get (Nat.lt_of_lt_of_le hx hle3.1) hne, hle3.2 x hx]) hp hB (W := W) (fun x hx => ⟨(hW x hx).1, _, keepBut_get (by have := (hW x hx).2; omega) (by have := (hW x hx).1; omega)⟩) rfl fun M hM hc => ?_
  have o5 := own_fw ho3 h4h hp.fw
  have oM : Own M b4 [v] 0 := ⟨by have := o5.1; omega, hc _ _ _ _ (by omega) o5.1 o5.2⟩
  have hkeep : ∀ x, x < m1.next → x ≠ h → m5.get x = m1.get x ∧ x < m5.next := fun x hx hne => by
    obtain ⟨g1, g2⟩ := hp.fw _ _ (keepBut_get (m := m3) (h := h) (x := x) (by omega) hne)
    exact ⟨by rw [g2, hle13.2 x hx], g1⟩
  refine hwipe b4 M oM (fun hw => by have := (hW b4 hw).2; omega) (fun x c e o q1 q2 q3 => ?_) ?_ _ _ fun m' q1 q2 => ⟨by omega, fun x _ hx => q2 x hx⟩
  · obtain ⟨g1, g2⟩ := hkeep x q2 (by omega)
    exact hc x c e o q1 g2 (by rw [g1]; exact q3)
  · by_cases hz : m1.next = 0
    · omega
    · by_cases hz2 : m1.next - 1 = h
      · have := o5.1; omega
      · have := (hkeep (m1.next - 1) (by omega) hz2).2; omega
/-- … of numbers. -/
theorem clo_ints {T PUT g W0 : Nat} (ze : zeroL P T = some [.slice none 0 0]) (sz : szOf P T = some 1) (ag : aggB P T = some false) (hput : PutOk P PUT [.sl [.i]] false)
    {m0 m1 : CM} {h : Nat} {v : Value} (hoh : Own m0 h [.slice none 0 0, .slice none 0 0] 0) (hle1 : m0.le m1) (hv : ResV 1 m0 m1 v)
    (hw : ∀ {t : Nat} {v : Value} {bn : Option Nat} {cs : List Value} {m : CM}, Own m t [v] 0 → HV m v bn cs → cs.length ≤ lim → ∀ {K : Value → CM → Prop} {Kp : List PanicEntry → CM → Prop}, (∀ m', m'.next = m.next → (∀ x, bn ≠ some x → m'.get x = m.get x) → K (.tuple ⟨[]⟩) m') → callw P W0 [.pointer (some ⟨t, 0, none⟩)] m K Kp)
    (hg : ∀ (t : Nat) (M : CM) (K : Value → CM → Prop) (Kp : List PanicEntry → CM → Prop), (∀ {K' : Value → CM → Prop} {Kp' : List PanicEntry → CM → Prop}, (∀ m', K (.tuple ⟨[]⟩) m' → K' (.tuple ⟨[]⟩) m') → callw P W0 [.pointer (some ⟨t, 0, none⟩)] M K' Kp') → callw P g [.pointer (some ⟨t, 0, none⟩)] M K Kp)
    {R : Value → CM → Prop} {Kp1 : List PanicEntry → CM → Prop}
    (hR : ∀ (p : Value) (F : Keep) (B : Nat) (m4 : CM), B ≤ 200 → Hp F h B m4 → (∀ B m5, Hp F h B m5 → B ≤ lim → CloPost P m0 h (.func (.func g) ⟨[]⟩ ⟨[p]⟩) m5) → R p m4) :
    alw P T m1 (fun t4 m => sop (cstore P T t4 v m) (fun _ m => pop (cload P T t4 m) m (fun t17 m => callw P PUT [.pointer (some ⟨h, 0, none⟩), t17] m (fun _ m => R t4 m) Kp1))) := by
  obtain ⟨bn, cs, n, hv, hb, hn6, hi⟩ := hv
  have hhm := hoh.1
  have hl := lm
  have hs : sumN (fun _ => 1) n = n := sumN_one n
  refine clo_slice (W := fun x => bn = some x) (k := 1 + sumN (fun _ => 1) n) (g := g) ze sz ag hput hoh hle1 hv.toL1 (fun m3 hle3 => HVe.wt1 (hv.le hle3) (fun y hy => by have := hb y hy; omega) hi) (by omega) (fun x hx => ⟨hb x hx, hv.lt hx⟩) (fun t M ho hW hc hn K Kp hK => ?_) fun p F m4 hp hf => hR p F _ m4 (by omega) hp hf
  refine hg t M K Kp fun {K' Kp'} hKK => ?_
  have hv' := HVe.to hv hb hc hn
  exact hw ho hv'.hv (by have := hv'.len; omega) fun m' q1 q2 => hKK m' (hK m' q1 q2)
/-- A result that is one struct of numbers, put into a variable of its own. -/
theorem var_agg {T n : Nat} {c z : List Value} (ze : zeroL P T = some z) (sz : szOf P T = some n) (ag : aggB P T = some true) (hc : c.length = n) (hz : z.length = n) (h1 : c.all one = true) {m : CM} {F : Value → CM → Prop} (h : ∀ b m', m.le m' → m.next ≤ b → Own m' b c 0 → F (.pointer (some ⟨b, 0, none⟩)) m') :
    alw P T m (fun t4 m => sop (cstore P T t4 (.agg ⟨c⟩) m) (fun _ m => F t4 m)) := by
  refine alw_of ze fun b4 m2 hle2 hb4 ho4 => store_own ho4 (by simp [toL, sz, hc]) (by simp [toL, hc, hz]) (by simpa [toL] using h1) fun m3 hn3 hx3 ho3 => ?_
  simp only [toL] at ho3
  exact h _ _ (le_of_put hle2 hb4 hn3 hx3) hb4 ho3
end
/-! ### What came in -/
/-- A slice of pairs of numbers ahead. -/
theorem wtlLii {F : Keep} {k : Nat} {l : List Value} {cs : List CT} (h : WTL F (.sl [.i, .i] :: cs) k l) : ∃ v n, ∃ x y : Nat → Int, ∃ k' l', l = v :: l' ∧ SlF F 2 v n (fun j => [.int .i64 (x j), .int .i64 (y j)]) ∧ n ≤ k ∧ WTL F cs k' l' ∧ k' ≤ k := by
  obtain ⟨v, n, row, ks, k', l', h1, h2, h3, h4, h5, h6⟩ := wtlL h
  obtain ⟨x, hx⟩ := chooseF (r := fun (i : Nat) (u : Int × Int) => i < n → row i = [.int .i64 u.1, .int .i64 u.2]) fun i => by
    by_cases hi : i < n
    · obtain ⟨u, _, _, e, t, _⟩ := wtlI (h4 i hi).1
      obtain ⟨w, _, _, e2, t, _⟩ := wtlI t
      exact ⟨⟨u, w⟩, fun _ => by rw [e, e2, wtl0 t]⟩
    · exact ⟨⟨0, 0⟩, fun h => absurd h hi⟩
  exact ⟨v, n, fun i => (x i).1, fun i => (x i).2, k', l', h1, fun m hm => (h2 m hm).congr fun i hi => hx i hi, h3, h5, h6⟩
end Go.Proofs.Ytjkfleibnojjaaa
end

section
namespace Go.Proofs.Ytjkfleibnojjaaa
open Go
section
variable {P : Program}
def PrT {α : Type} (P : Program) (x : Sem α) : Prop := ∃ a, pureRun P x = some a
theorem PrT.bind {α β : Type} {x : Sem α} {f : α → Sem β} (hx : PrT P x) (hf : ∀ a, pureRun P x = some a → PrT P (f a)) : PrT P (x >>= f) := by
  obtain ⟨a, ha⟩ := hx
  obtain ⟨b, hb⟩ := hf a ha
  exact ⟨b, by rw [pureRun_bind, ha]; exact hb⟩
theorem PrT.pure {α : Type} (a : α) : PrT P (pure a) := ⟨a, rfl⟩
theorem PrT.forIn {α β : Type} (f : α → β → Sem (ForInStep β)) : ∀ (l : List α) (b : β), (∀ a ∈ l, ∀ b, PrT P (f a b)) → PrT P (forIn l b f)
  | [], b, _ => by rw [List.forIn_nil]; exact PrT.pure b
  | a :: l, b, h => by
    rw [List.forIn_cons]
    refine PrT.bind (h a (by simp) b) fun s _ => ?_
    cases s with
    | done b => exact PrT.pure b
    | yield b => exact PrT.forIn f l b fun x hx => h x (by simp [hx])
theorem PrT.equal_int {t : TypeId} {k : IntKind} (un : P.underlying t = some (.int k)) (d : Nat) (a b : Int) : PrT P (Op.equalIn (d + 1) t (.int k a) (.int k b)) := by
  unfold Op.equalIn
  refine PrT.bind ⟨_, pr_underlying un⟩ fun dd hd => ?_
  rw [pr_underlying un] at hd; cases hd
  simp only [if_true]
  exact PrT.pure _
theorem PrT.equal_bool {t : TypeId} (un : P.underlying t = some .bool) (d : Nat) (a b : Bool) : PrT P (Op.equalIn (d + 1) t (.bool a) (.bool b)) := by
  unfold Op.equalIn
  refine PrT.bind ⟨_, pr_underlying un⟩ fun dd hd => ?_
  rw [pr_underlying un] at hd; cases hd
  exact PrT.pure _
theorem PrT.equal_str {t : TypeId} (un : P.underlying t = some .string) (d : Nat) (a b : ByteArray) : PrT P (Op.equalIn (d + 1) t (.string a) (.string b)) := by
  unfold Op.equalIn
  refine PrT.bind ⟨_, pr_underlying un⟩ fun dd hd => ?_
  rw [pr_underlying un] at hd; cases hd
  exact PrT.pure _
theorem PrT.equal_struct {t : TypeId} {fs : Array Field} (un : P.underlying t = some (.struct fs)) (hst : P.stoodInHeld t = false) (d : Nat) (xs ys : Array Value)
    (h : ∀ f ∈ fs.toList, ∃ u v, pureRun P (part f.type xs f.offset) = some u ∧ pureRun P (part f.type ys f.offset) = some v ∧ PrT P (Op.equalIn d f.type u v)) : PrT P (Op.equalIn (d + 1) t (.agg xs) (.agg ys)) := by
  unfold Op.equalIn
  refine PrT.bind ⟨_, pr_underlying un⟩ fun dd hd => ?_
  rw [pr_underlying un] at hd; cases hd
  refine PrT.bind ⟨_, pr_program⟩ fun pp hp => ?_
  rw [pr_program] at hp; cases hp
  rw [hst]
  simp only [Bool.false_eq_true, if_false]
  rw [← Array.forIn_toList]
  refine PrT.bind (PrT.forIn _ _ _ fun f hf b => ?_) fun r _ => ?_
  · obtain ⟨u, v, hu, hv, he⟩ := h f hf
    split
    · refine PrT.bind ⟨u, hu⟩ fun u' hu' => ?_
      rw [hu] at hu'; cases hu'
      refine PrT.bind ⟨v, hv⟩ fun v' hv' => ?_
      rw [hv] at hv'; cases hv'
      refine PrT.bind he fun b' _ => ?_
      split <;> exact PrT.pure _
    · exact PrT.pure _
  · split <;> exact PrT.pure _
/-- Two structs can be held against each other. -/
theorem eq_total {t : TypeId} {x y : Operand} {l l' : List Value} (hg : P.eqGuardType P.depth t = false) (hl : plainL l = true) (hl' : plainL l' = true) (h : PrT P (Op.equalIn (9999 + 1) t (.agg ⟨l⟩) (.agg ⟨l'⟩))) : ∃ b, cbin P .eql t x y (.agg ⟨l⟩) (.agg ⟨l'⟩) = some (.bool b) := by
  obtain ⟨b, hb⟩ := h
  refine ⟨b, ?_⟩
  unfold cbin
  rw [if_pos (by simp [plainV, hl, hl'])]
  rw [pureRun_bind]
  have h1 : pureRun P (eqGuard .eql t x y (.agg ⟨l⟩) (.agg ⟨l'⟩)) = some () := by
    unfold eqGuard
    simp only [pureRun_bind, pr_program]
    simp [pureRun_bind, pr_program, hg]
    rfl
  rw [h1, Option.bind_some]
  have h2 : pureRun P (binOp .eql t (.agg ⟨l⟩) (.agg ⟨l'⟩)) = some (.bool b) := by
    have he : pureRun P (Op.equal t (.agg ⟨l⟩) (.agg ⟨l'⟩)) = some b := hb
    unfold binOp
    rw [pureRun_bind, he]; rfl
  rw [h2]; rfl
end
end Go.Proofs.Ytjkfleibnojjaaa
end

section
open Go Go.Proofs Go.Proofs.Ytjkfleibnojjaaa
set_option maxRecDepth 100000
namespace Go.Proofs.Ytjkfleibnojjaaa
section
variable {P : Program}
theorem eq_exact {t : TypeId} {x y : Operand} {l l' : List Value} {b : Bool} (hg : P.eqGuardType P.depth t = false) (hl : plainL l = true) (hl' : plainL l' = true) (hb : pureRun P (Op.equalIn (9999 + 1) t (.agg ⟨l⟩) (.agg ⟨l'⟩)) = some b) : cbin P .eql t x y (.agg ⟨l⟩) (.agg ⟨l'⟩) = some (.bool b) := by
  unfold cbin
  rw [if_pos (by simp [plainV, hl, hl'])]
  rw [pureRun_bind]
  have h1 : pureRun P (eqGuard .eql t x y (.agg ⟨l⟩) (.agg ⟨l'⟩)) = some () := by
    unfold eqGuard
    simp only [pureRun_bind, pr_program]
    simp [pureRun_bind, pr_program, hg]
    rfl
  rw [h1, Option.bind_some]
  have h2 : pureRun P (binOp .eql t (.agg ⟨l⟩) (.agg ⟨l'⟩)) = some (.bool b) := by
    have he : pureRun P (Op.equal t (.agg ⟨l⟩) (.agg ⟨l'⟩)) = some b := hb
    unfold binOp
    rw [pureRun_bind, he]; rfl
  rw [h2]; rfl
end
theorem box_n {v : Value} {m : CM} {K : Value → CM → Prop} (h : ∀ b m', b = m.next → m'.next = m.next + 1 → m.le m' → Own m' b (toL v) 0 → K (.pointer (some ⟨b, 0, none⟩)) m') : boxw v m K :=
  ⟨h _ _ rfl (by simp) (CM.le_alloc ..) ⟨by simp, by rw [CM.get_alloc, if_pos rfl]⟩⟩
theorem alw_n {P : Program} {t : TypeId} {l : List Value} {m : CM} {K : Value → CM → Prop} (hz : zeroL P t = some l) (h : ∀ b m', b = m.next → m'.next = m.next + 1 → m.le m' → Own m' b l 0 → K (.pointer (some ⟨b, 0, none⟩)) m') : alw P t m K :=
  ⟨l, hz, h _ _ rfl (by simp) (CM.le_alloc ..) ⟨by simp, by rw [CM.get_alloc, if_pos rfl]⟩⟩
end Go.Proofs.Ytjkfleibnojjaaa
end
