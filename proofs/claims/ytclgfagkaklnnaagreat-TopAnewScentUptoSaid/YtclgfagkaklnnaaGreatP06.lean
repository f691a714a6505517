/- Part 6 of 21 of the proof that the law TopAnewScent returns true and leaves its argument as it read before, for every input that the bounded statement admits (what it reads is of bulk at most 1048576). -/
import Derived.Test.YtclgfagkaklnnaaGreatP05
section
namespace Go.Proofs.YtclgfagkaklnnaaGreat
open Go
/-! ### The first thing with an error -/
theorem elv_toL {a : Bool} {e : Nat} {r : List Value} (he : a = false → e = 1) (hr : r.length = e) (h1 : r.all one = true) : toL (elv a r) = r ∧ (toL (elv a r)).all one = true := by
  cases a with
  | true => exact ⟨rfl, h1⟩
  | false =>
    have := he rfl
    subst this
    match r, hr with
    | [x], _ =>
      have hx : one x = true := by simpa using h1
      have : toL (elv false [x]) = [x] := toL_one hx
      exact ⟨this, by rw [this]; exact h1⟩
section
variable {P : Program} {I T E Er : TypeId}
def sFirst (P : Program) (I T E Er : TypeId) (R : CE → CM → Prop) (a0 a1 : Value) (m : CM) : Prop :=
  pop (clen P T a0 m) m (fun t9 m => loopA [1, 4, 5, 8, 9, 10] (fun X1 ρ1 ds m => pop (cbin P BinOp.lss I (Operand.tmp 10) (Operand.tmp 9) (ρ1 10) (ρ1 9)) m (fun t11 m => cnd t11 (pop (cia P T (ρ1 8) (ρ1 10)) m (fun t13 m => pop (cload P E t13 m) m (fun t14 m => alw P E m (fun t7 m => sop (cstore P E t7 t14 m) (fun _ m => pop (cload P E t7 m) m (fun t17 m => callv P (ρ1 1) [(ρ1 10), t17] m (fun t18 m => pop (cbin P BinOp.neq Er (Operand.tmp 19) (Operand.const (Value.int IntKind.i64 0)) t18 (.int .i64 0)) m (fun t20 m => cnd t20 (leaveV P [.v (ρ1 10), .v t18] ds .ret m R) (pop (cbin P BinOp.add I (Operand.tmp 10) (Operand.const (Value.int IntKind.i64 1)) (ρ1 10) (.int .i64 1)) m (fun t23 m => X1 [(ρ1 1), (ρ1 4), t18, (ρ1 8), (ρ1 9), t23] ds m)))) (fun ch m => leaveV P [.v (ρ1 4), .v (ρ1 5)] ds (.pan ch) m R))))))) (leaveV P [.v (.int .i64 0), .v (.int .i64 0)] ds .ret m R))) [a1, (.int .i64 0), (.int .i64 0), a0, t9, (.int .i64 0)] [] m)
/-- I i holds before the i-th thing; J e when the error e was found. -/
theorem first_ok {g : FuncId} (hc : ∀ {a0 a1 : Value} {m : CM} {K : Value → CM → Prop} {Kp : List PanicEntry → CM → Prop}, sFirst P I T E Er (RK K Kp) a0 a1 m → callw P g [a0, a1] m K Kp)
    {e : Nat} {a : Bool} {z : List Value} (un : P.underlying T = some (.slice E)) (sz : szOf P E = some e) (ag : aggB P E = some a) (he : a = false → e = 1) (ze : zeroL P E = some z) (hz : z.length = e)
    {m : CM} {v f : Value} {n : Nat} {row : Nat → List Value} {Inv : Nat → CM → Prop} {J : Int → CM → Prop} (hn : n < 4611686018427387904) (h1 : ∀ i, i < n → (row i).all one = true)
    (hs : ∀ i m', Inv i m' → Sl e m' v n row) (hI : ∀ i m' m2, Inv i m' → m'.le m2 → Inv i m2)
    (hf : ∀ (i : Nat) (m' : CM) (K : Value → CM → Prop) (Kp : List PanicEntry → CM → Prop), i < n → Inv i m' → (∀ m2 (c : Int), (c = 0 → Inv (i + 1) m2) → (c ≠ 0 → J c m2) → K (.int .i64 c) m2) → callv P f [.int .i64 i, elv a (row i)] m' K Kp)
    (h0 : Inv 0 m) {K : Value → CM → Prop} {Kp : List PanicEntry → CM → Prop} (hK : ∀ m' (x c : Int), (c = 0 → Inv n m') → (c ≠ 0 → J c m') → K (.tuple ⟨[.int .i64 x, .int .i64 c]⟩) m') : callw P g [v, f] m K Kp := by
  refine hc ?_
  unfold sFirst
  simp only [(hs _ _ h0).len un, pop_some]
  refine loopA_of (fun l ds m' => ds = [] ∧ ∃ i : Nat, ∃ c : Value, i ≤ n ∧ Inv i m' ∧ l = [f, .int .i64 0, c, v, .int .i64 n, .int .i64 i])
    (fun l _ => match l with | [_, _, _, _, _, .int _ i] => n - i.toNat | _ => 0) ⟨rfl, 0, _, by omega, h0, rfl⟩ ?_
  rintro X ρ ds m' ⟨rfl, i, c, hi, hIm, hl⟩ hX
  simp only [List.map_cons, List.map_nil, List.cons.injEq, and_true] at hl
  obtain ⟨q1, q4, q5, q8, q9, q10⟩ := hl
  simp only [q1, q4, q5, q8, q9, q10, cb_lss, pop_some]
  by_cases hci : i < n
  · have hc' : decide ((i : Int) < (n : Int)) = true := by simpa using hci
    obtain ⟨b, o, hia, hcel, hlen⟩ := (hs _ _ hIm).at un sz (i := i) (by omega) (by omega)
    simp only [Int.toNat_natCast] at hcel hlen
    rw [hc', cnd_true, hia, pop_some, hcel.elv ag sz hlen he, pop_some]
    obtain ⟨e1, e2⟩ := elv_toL he hlen (h1 i hci)
    refine alw_of ze fun b7 m1 hle1 hb7 ho7 => ?_
    refine ho7.store (by rw [e1, hlen]; exact sz) (by rw [e1]; omega) e2 fun m2 hn2 hx2 ho2 => ?_
    rw [e1] at ho2
    have hsp : splice z 0 (row i) = row i := by
      have hd : z.drop (row i).length = [] := List.drop_eq_nil_of_le (by omega)
      simp [splice, hd]
    rw [hsp] at ho2
    have hle2 := le_of_put hle1 hb7 hn2 hx2
    have hld : cload P E (.pointer (some ⟨b7, 0, none⟩)) m2 = some (elv a (row i)) := ho2.cel.elv ag sz hlen he
    rw [hld, pop_some]
    refine hf i m2 _ _ hci (hI _ _ _ hIm hle2) fun m3 c3 g0 g1 => ?_
    rw [cb_neq, pop_some]
    cases hcc : (c3 != 0) with
    | true =>
      have hne : c3 ≠ 0 := by simpa using hcc
      rw [cnd_true, leave2, RK_ret]
      exact hK _ _ _ (fun h => absurd h hne) g1
    | false =>
      have he0 : c3 = 0 := by simpa using hcc
      rw [cnd_false, cb_add, pop_some, wrap_id (by omega) (by omega)]
      refine hX _ _ _ ⟨rfl, i + 1, .int .i64 c3, by omega, g0 he0, by simp⟩ ?_
      simp only [List.map_cons, List.map_nil, q10]; omega
  · have hc' : decide ((i : Int) < (n : Int)) = false := by simpa using hci
    rw [hc', cnd_false, leave2, RK_ret]
    have : i = n := by omega
    subst this
    exact hK _ _ _ (fun _ => hIm) (fun h => absurd rfl h)
end
end Go.Proofs.YtclgfagkaklnnaaGreat
end

section
namespace Go.Proofs.YtclgfagkaklnnaaGreat
open Go
/-! ### What a closure leaves, and how it is written over -/
theorem clo_of {P : Program} {F : Keep} {m m1 : CM} {h B : Nat} (hh : h < m.next) (hF : ∀ x, x < m.next → x ≠ h → F x = some (m.get x)) (hp : Hp F h B m1) (hB : B ≤ lim) {W : Nat → Prop} (hW : ∀ x, W x → m.next ≤ x ∧ ∃ y, F x = some y) {v : Value} {g2 : FuncId} {cs2 : List Value} (hv : v = .func (.func g2) ⟨[]⟩ ⟨cs2⟩)
    (hwipe : ∀ M : CM, m1.next = M.next → (∀ x c e o, m.next ≤ x → x < m1.next → m1.get x = some (.cells c e o) → M.get x = some (.cells c e o)) →
      callw P g2 cs2 M (fun _ M2 => M.next ≤ M2.next ∧ ∀ x, x < M.next → ¬ W x → M2.get x = M.get x) (fun _ _ => False)) : CloPost P m h v m1 := by
  obtain ⟨vn, vs, bn, bs, cn, cs, h1, h2, h3, h4, h5, h6, h7, h8⟩ := hp.ex
  have hn : m.next ≤ m1.next := by
    by_cases e : m.next - 1 = h
    · have := h3.1; omega
    · have := (h8 _ _ (hF (m.next - 1) (by omega) e)).1.1; omega
  refine ⟨vn, vs, bn, bs, cn, cs, W, g2, cs2, h1, h2, h3, ⟨by omega, by omega⟩, h6, h7, ⟨hn, fun x hx hne => (h8 _ _ (hF x hx hne)).1.2⟩, fun y hy => ⟨?_, fun hw => ?_⟩, fun y hy => ⟨?_, fun hw => ?_⟩, fun x hx => (hW x hx).1, hv, hwipe⟩
  · apply Nat.le_of_not_lt; intro hlt
    by_cases e : y = h
    · subst e; exact h4.1 hy
    · exact (h8 _ _ (hF y hlt e)).2.2.1 hy
  · obtain ⟨_, z, hz⟩ := hW y hw
    exact (h8 _ _ hz).2.2.1 hy
  · apply Nat.le_of_not_lt; intro hlt
    by_cases e : y = h
    · subst e; exact h4.2.1 hy
    · exact (h8 _ _ (hF y hlt e)).2.2.2 hy
  · obtain ⟨_, z, hz⟩ := hW y hw
    exact (h8 _ _ hz).2.2.2 hy
theorem fw_keepBut (m : CM) (h : Nat) : FW (keepBut m h) m := fun x y hx => by
  unfold keepBut at hx
  split at hx
  · rename_i e; cases hx; exact ⟨e.1, rfl⟩
  · cases hx
theorem keepBut_get {m : CM} {h x : Nat} (hx : x < m.next) (hne : x ≠ h) : keepBut m h x = some (m.get x) := by unfold keepBut; rw [if_pos ⟨hx, hne⟩]
/-- The heap is empty still. -/
theorem hp_but {m : CM} {h : Nat} (ho : Own m h [.slice none 0 0, .slice none 0 0] 0) : Hp (keepBut m h) h 0 m :=
  hp_init (fw_keepBut m h) (fun y hy => by unfold keepBut at hy; rw [if_neg (by omega)] at hy; cases hy) ho
/-- A closure that has nothing to write over. -/
theorem clo_nothing {P : Program} {m m' m1 : CM} {h B : Nat} (ho : Own m h [.slice none 0 0, .slice none 0 0] 0) (hle : m.le m') (hp : Hp (keepBut m' h) h B m1) (hB : B ≤ lim) {g2 : FuncId} (hwipe : ∀ (M : CM) (K : Value → CM → Prop) (Kp : List PanicEntry → CM → Prop), K (.tuple ⟨[]⟩) M → callw P g2 [] M K Kp) : CloPost P m h (.func (.func g2) ⟨[]⟩ ⟨[]⟩) m1 :=
  clo_of ho.1 (fun x hx hne => by rw [keepBut_get (Nat.lt_of_lt_of_le hx hle.1) hne, hle.2 x hx]) hp hB (W := fun _ => False) (fun x hx => hx.elim) rfl fun M hM hc => hwipe M _ _ ⟨Nat.le_refl _, fun _ _ _ => rfl⟩
theorem sumN_one (n : Nat) : sumN (fun _ => 1) n = n := by induction n with
  | zero => rfl
  | succ n ih => simp only [sumN, ih]
theorem HV.wt {m : CM} {h : Nat} {v : Value} {bn : Option Nat} {cs : List Value} (hv : HV m v bn cs) (hb : ∀ y, bn = some y → y ≠ h) {t : CT} (hc : ∀ u ∈ cs, WT (keepBut m h) t 1 u) : WTL (keepBut m h) [.sl [t]] (1 + cs.length) [v] := by
  refine .cons (k' := 0) ?_ .nil
  rw [← sumN_one cs.length]
  refine .sl (row := fun i => [cs.getD i undef]) (fun M hM => ?_) (by simp) fun i hi => ?_
  · cases hv with
    | nil => exact HV.sl .nil
    | blk ho => exact HV.sl (.blk ⟨(hM _ _ (keepBut_get ho.1 (hb _ rfl))).1, by rw [(hM _ _ (keepBut_get ho.1 (hb _ rfl))).2]; exact ho.2⟩)
  · refine .cons (k' := 0) (hc _ ?_) .nil
    rw [List.getD_eq_getElem?_getD, List.getElem?_eq_getElem hi]
    exact List.getElem_mem hi
section
variable {P : Program} {I T : TypeId}
def sEach (P : Program) (I T : TypeId) (R : CE → CM → Prop) (a0 a1 : Value) (m : CM) : Prop :=
  loopA [0, 1, 4] (fun X1 ρ1 ds m => pop (clen P T (ρ1 0) m) m (fun t7 m => pop (cbin P BinOp.lss I (Operand.tmp 5) (Operand.tmp 7) (ρ1 4) t7) m (fun t8 m => cnd t8 (pop (cia P T (ρ1 0) (ρ1 4)) m (fun t14 m => callv P (ρ1 1) [t14] m (fun _ m => pop (cbin P BinOp.add I (Operand.tmp 9) (Operand.const (Value.int IntKind.i64 1)) (ρ1 4) (.int .i64 1)) m (fun t10 m => X1 [(ρ1 0), (ρ1 1), t10] ds m)) (fun ch m => leaveV P [] ds (.pan ch) m R))) (leaveV P [] ds .ret m R)))) [a0, a1, (.int .i64 0)] [] m
def sWipe1 (P : Program) (I : TypeId) (n : Int) (R : CE → CM → Prop) (a0 : Value) (m : CM) : Prop :=
  pop (cnilc a0) m (fun t3 m => sop (cstore P I t3 (.int .i64 n) m) (fun _ m => leaveV P [] [] .ret m R))
def sWipes (P : Program) (T : TypeId) (g g1 : FuncId) (R : CE → CM → Prop) (a0 : Value) (m : CM) : Prop :=
  pop (cnilc a0) m (fun t3 m => pop (cload P T t3 m) m (fun t4 m => callw P g [t4, (.func (.func g1) ⟨[]⟩ ⟨[]⟩)] m (fun _ m => leaveV P [] [] .ret m R) (fun ch m => R (.pan ch) m)))
theorem splice_at {c : List Value} {i : Nat} (hi : i < c.length) (x : Value) : (splice c i [x]).length = c.length := by simp [splice]; omega
/-- Writing over a slice of numbers. -/
theorem wipes_ok (un : P.underlying T = some (.slice I)) (sz : szOf P I = some 1) (agT : aggB P T = some false) {n : Int} {g g1 : FuncId}
    (c1 : ∀ {a0 a1 : Value} {m : CM} {K : Value → CM → Prop} {Kp : List PanicEntry → CM → Prop}, sEach P I T (RK K Kp) a0 a1 m → callw P g [a0, a1] m K Kp)
    (c2 : ∀ {a0 : Value} {m : CM} {K : Value → CM → Prop} {Kp : List PanicEntry → CM → Prop}, sWipe1 P I n (RK K Kp) a0 m → callw P g1 [a0] m K Kp)
    {t : Nat} {v : Value} {bn : Option Nat} {cs : List Value} {m : CM} (ho : Own m t [v] 0) (hv : HV m v bn cs) (hlen : cs.length ≤ lim) {K : CE → CM → Prop} (hK : ∀ m', m'.next = m.next → (∀ x, bn ≠ some x → m'.get x = m.get x) → K (.ret (.tuple ⟨[]⟩)) m') :
    sWipes P T g g1 K (.pointer (some ⟨t, 0, none⟩)) m := by
  unfold sWipes
  simp only [cnilc, pop_some]
  rw [ho.cel.z agT rfl, pop_some]
  refine c1 ?_
  unfold sEach
  have hll : lim < 4611686018427387904 := by decide
  refine loopA_of (fun l ds m' => ds = [] ∧ ∃ (i : Nat) (cs' : List Value), i ≤ cs.length ∧ m'.next = m.next ∧ (∀ x, bn ≠ some x → m'.get x = m.get x) ∧ cs'.length = cs.length ∧ HV m' v bn cs' ∧ l = [v, .func (.func g1) ⟨[]⟩ ⟨[]⟩, .int .i64 i])
    (fun l _ => match l with | [_, _, .int _ i] => cs.length - i.toNat | _ => 0) ⟨rfl, 0, cs, by omega, rfl, fun _ _ => rfl, rfl, hv, rfl⟩ ?_
  rintro X ρ ds m' ⟨rfl, i, cs', hi, hn, hx, hl', hv', hl⟩ hX
  simp only [List.map_cons, List.map_nil, List.cons.injEq, and_true] at hl
  obtain ⟨h0, h1, h4⟩ := hl
  simp only [h0, h1, h4, hv'.sl.len un, pop_some, cb_lss]
  by_cases hc : i < cs.length
  · have hc' : decide ((i : Int) < (cs'.length : Int)) = true := by simpa [hl'] using hc
    rw [hc', cnd_true]
    cases hv' with
    | nil => simp at hl'; omega
    | blk ho' =>
    rename_i b
    have hia : cia P T (.slice (some ⟨b, 0, none⟩) cs'.length 0) (.int .i64 i) = some (.pointer (some ⟨b, i, none⟩)) := by
      have h : ((i : Int).toNat < cs'.length) := by omega
      simp [cia, un, sz]
      omega
    rw [hia, pop_some]
    show callw P g1 ([] ++ [_] ++ []) m' _ _
    refine c2 ?_
    unfold sWipe1
    simp only [cnilc, pop_some]
    refine ho'.store (by simp [toL, sz]) (by simp [toL]; omega) rfl fun m2 hn2 hx2 ho2 => ?_
    rw [leave0, RK_ret, cb_add, pop_some, wrap_id (by omega) (by omega)]
    have hls : (splice cs' i (toL (.int .i64 n))).length = cs'.length := splice_at (by omega) _
    refine hX _ _ _ ⟨rfl, i + 1, splice cs' i (toL (.int .i64 n)), by omega, by omega, fun x hne => ?_, by omega, ?_, by simp⟩ ?_
    · rw [hx2 x (fun e => hne (by rw [e])), hx x hne]
    · have h3 := HV.blk ho2
      rw [hls] at h3
      exact h3
    · simp only [List.map_cons, List.map_nil, h4]; omega
  · have hc' : decide ((i : Int) < (cs'.length : Int)) = false := by simpa [hl'] using hc
    rw [hc', cnd_false, leave0, RK_ret, leave0]
    exact hK _ hn hx
end
end Go.Proofs.YtclgfagkaklnnaaGreat
end
