/- Part 19 of 23 of the proof that the law TopAnewStore returns true and leaves its argument as it read before, for every input that the bounded statement admits (what it reads is of bulk at most 1048576). -/
import Derived.Test.YtjkfleibnojjaaaP18
namespace Go.Proofs.Ytjkfleibnojjaaa
open Go

/-! ### Cheap ways to do what the evaluator does most often (the same results) -/
noncomputable def forceA (a : Option Addr) (K : Option Addr → Bool) : Bool := @Option.rec Addr (fun _ => Bool) (K none) (fun a => @Addr.rec (fun _ => Bool) (fun b o s => natF b fun b => natF o fun o => K (some ⟨b, o, s⟩)) a) a
theorem forceA_eq (a : Option Addr) (K : Option Addr → Bool) : forceA a K = K a := by
  cases a with
  | none => rfl
  | some a => obtain ⟨b, o, s⟩ := a; simp only [forceA, natF_eq]
noncomputable def valX (v : Value) : (Value → Bool) → Bool :=
  @Value.rec (fun _ => (Value → Bool) → Bool) (fun _ => PUnit) (fun _ => PUnit)
    (fun b K => @Bool.rec (fun _ => Bool) (K (.bool false)) (K (.bool true)) b)
    (fun k n K => intF n fun n => K (.int k n))
    (fun k n K => K (.float k n)) (fun k n i K => K (.complex k n i)) (fun s K => K (.string s))
    (fun a K => forceA a fun a => K (.pointer a))
    (fun a l c K => natF l fun l => natF c fun c => forceA a fun a => K (.slice a l c))
    (fun r K => K (.map r)) (fun r K => K (.chan r)) (fun f a c _ _ K => K (.func f a c)) (fun K => K .nilFunc) (fun t v _ K => K (.iface t v)) (fun K => K .nilIface) (fun c _ K => K (.agg c)) (fun c _ K => K (.tuple c))
    (fun _ _ => ⟨⟩) ⟨⟩ (fun _ _ _ _ => ⟨⟩) v
theorem valX_eq (v : Value) (K : Value → Bool) : valX v K = K v := by
  cases v with
  | bool b => cases b <;> rfl
  | int k n => exact intF_eq n fun n => K (.int k n)
  | pointer a => exact forceA_eq a fun a => K (.pointer a)
  | slice a l c =>
    show natF l (fun l => natF c fun c => forceA a fun a => K (.slice a l c)) = _
    simp only [natF_eq, forceA_eq]
  | _ => rfl
noncomputable def nthX {α : Type} (l : List α) : Nat → Option α :=
  @List.rec α (fun _ => Nat → Option α) (fun _ => none) (fun v _ ih k => @Bool.rec (fun _ => Option α) (ih (Nat.pred k)) (some v) (Nat.beq k 0)) l
theorem nthX_eq {α : Type} : ∀ (l : List α) (k : Nat), nthX l k = l[k]?
  | [], _ => rfl
  | v :: l, 0 => rfl
  | v :: l, k + 1 => by
    show @Bool.rec (fun _ => Option α) (nthX l k) (some v) (Nat.beq (k + 1) 0) = _
    rw [nthX_eq l k]
    rfl
noncomputable def setX {α : Type} (l : List α) : Nat → α → List α :=
  @List.rec α (fun _ => Nat → α → List α) (fun _ _ => []) (fun v t ih k x => @Bool.rec (fun _ => List α) (v :: ih (Nat.pred k) x) (x :: t) (Nat.beq k 0)) l
theorem setX_eq {α : Type} : ∀ (l : List α) (k : Nat) (x : α), setX l k x = l.set k x
  | [], _, _ => rfl
  | v :: l, 0, _ => rfl
  | v :: l, k + 1, x => by
    show v :: setX l k x = _
    rw [setX_eq l k x]
    rfl
noncomputable def getX {α : Type} (t : T α) : Nat → Option α :=
  @T.rec α (fun _ => Nat → Option α) (fun _ => none) (fun _ v _ gl gr k => @Bool.rec (fun _ => Option α) (@Bool.rec (fun _ => Option α) (gr (Nat.pred (Nat.div k 2))) (gl (Nat.div k 2)) (Nat.beq (Nat.mod k 2) 1)) v (Nat.beq k 0)) t
theorem beq_of_ne {k j : Nat} (h : k ≠ j) : Nat.beq k j = false := by cases hb : Nat.beq k j with | false => rfl | true => exact absurd (Nat.eq_of_beq_eq_true hb) h
theorem beq_of_eq {k j : Nat} (h : k = j) : Nat.beq k j = true := by subst h; exact Nat.beq_refl k
theorem getX_eq {α : Type} : ∀ (t : T α) (k : Nat), getX t k = t.get k
  | .nil, _ => rfl
  | .node l v r, k => by
    show @Bool.rec (fun _ => Option α) (@Bool.rec (fun _ => Option α) (getX r (Nat.pred (Nat.div k 2))) (getX l (Nat.div k 2)) (Nat.beq (Nat.mod k 2) 1)) v (Nat.beq k 0) = _
    rw [getX_eq l, getX_eq r]
    simp only [T.get]
    by_cases h : k = 0
    · rw [beq_of_eq h, if_pos h]
    · rw [beq_of_ne h, if_neg h]
      by_cases h2 : k % 2 = 1
      · rw [beq_of_eq (show Nat.mod k 2 = 1 from h2), if_pos h2]; rfl
      · rw [beq_of_ne (show Nat.mod k 2 ≠ 1 from h2), if_neg h2]; rfl
noncomputable def lftX {α : Type} (t : T α) : T α := @T.rec α (fun _ => T α) .nil (fun l _ _ _ _ => l) t
noncomputable def rgtX {α : Type} (t : T α) : T α := @T.rec α (fun _ => T α) .nil (fun _ _ r _ _ => r) t
noncomputable def midX {α : Type} (t : T α) : Option α := @T.rec α (fun _ => Option α) none (fun _ v _ _ _ => v) t
noncomputable def putT {α : Type} (f : Nat) : T α → Nat → Option α → T α :=
  @Nat.rec (fun _ => T α → Nat → Option α → T α) (fun t _ _ => t)
    (fun _ ih t k x => @Bool.rec (fun _ => T α)
      (@Bool.rec (fun _ => T α) (.node (lftX t) (midX t) (ih (rgtX t) (Nat.pred (Nat.div k 2)) x)) (.node (ih (lftX t) (Nat.div k 2) x) (midX t) (rgtX t)) (Nat.beq (Nat.mod k 2) 1))
      (.node (lftX t) x (rgtX t)) (Nat.beq k 0)) f
theorem putT_eq {α : Type} : ∀ (f : Nat) (t : T α) (k : Nat) (x : Option α), putT f t k x = T.put f t k x
  | 0, _, _, _ => rfl
  | f + 1, t, k, x => by
    show @Bool.rec (fun _ => T α) (@Bool.rec (fun _ => T α) (.node (lftX t) (midX t) (putT f (rgtX t) (Nat.pred (Nat.div k 2)) x)) (.node (putT f (lftX t) (Nat.div k 2) x) (midX t) (rgtX t)) (Nat.beq (Nat.mod k 2) 1)) (.node (lftX t) x (rgtX t)) (Nat.beq k 0) = _
    rw [putT_eq f, putT_eq f]
    cases t <;> simp only [T.put] <;> by_cases h : k = 0
    all_goals first
      | (rw [beq_of_eq h, if_pos h]; rfl)
      | (rw [beq_of_ne h, if_neg h]
         by_cases h2 : k % 2 = 1
         · rw [beq_of_eq (show Nat.mod k 2 = 1 from h2), if_pos h2]; rfl
         · rw [beq_of_ne (show Nat.mod k 2 ≠ 1 from h2), if_neg h2]; rfl)
noncomputable def msetX (m : CM) (b : Nat) (x : Option CB) : CM := ⟨putT (b + 1) m.t b x, m.next⟩
theorem msetX_eq (m : CM) (b : Nat) (x : Option CB) : msetX m b x = m.set b x := by simp only [msetX, putT_eq]; rfl
noncomputable def mallocX (m : CM) (x : CB) : CM := ⟨putT (m.next + 1) m.t m.next (some x), m.next + 1⟩
theorem mallocX_eq (m : CM) (x : CB) : mallocX m x = m.alloc x := by simp only [mallocX, putT_eq]; rfl
/-- A pointer that is a place: its block and its offset. -/
noncomputable def plcX (v : Value) : Option (Nat × Nat) :=
  @Value.rec (fun _ => Option (Nat × Nat)) (fun _ => PUnit) (fun _ => PUnit) (fun _ => none) (fun _ _ => none) (fun _ _ => none) (fun _ _ _ => none) (fun _ => none)
    (fun a => @Option.rec Addr (fun _ => Option (Nat × Nat)) none (fun a => @Addr.rec (fun _ => Option (Nat × Nat)) (fun b o s => @Option.rec Nat (fun _ => Option (Nat × Nat)) (some (b, o)) (fun _ => none) s) a) a)
    (fun _ _ _ => none) (fun _ => none) (fun _ => none) (fun _ _ _ _ _ => none) none (fun _ _ _ => none) none (fun _ _ => none) (fun _ _ => none) (fun _ _ => ⟨⟩) ⟨⟩ (fun _ _ _ _ => ⟨⟩) v
theorem plcX_some {v : Value} {p : Nat × Nat} (h : plcX v = some p) : v = .pointer (some ⟨p.1, p.2, none⟩) := by
  cases v with
  | pointer a =>
    cases a with
    | none => cases h
    | some a =>
      obtain ⟨b, o, s⟩ := a
      cases s with
      | none => cases h; rfl
      | some s => cases h
  | _ => cases h
noncomputable def cellsX (x : Option CB) : Option (List Value × Nat × Bool) := @Option.rec CB (fun _ => Option (List Value × Nat × Bool)) none (fun b => @CB.rec (fun _ => Option (List Value × Nat × Bool)) (fun c e w => some (c, e, w)) (fun _ => none) (fun _ => none) none (fun _ _ => none) b) x
theorem cellsX_some {x : Option CB} {c : List Value} {e : Nat} {w : Bool} (h : cellsX x = some (c, e, w)) : x = some (.cells c e w) := by
  cases x with
  | none => cases h
  | some b => cases b <;> cases h; rfl
/-- Is this one cell? -/
noncomputable def oneX (v : Value) : Bool :=
  @Value.rec (fun _ => Bool) (fun _ => PUnit) (fun _ => PUnit) (fun _ => true) (fun _ _ => true) (fun _ _ => true) (fun _ _ _ => true) (fun _ => true) (fun _ => true) (fun _ _ _ => true) (fun _ => true) (fun _ => true) (fun _ _ _ _ _ => true) true (fun _ _ _ => true) true (fun _ _ => false) (fun _ _ => false) (fun _ _ => ⟨⟩) ⟨⟩ (fun _ _ _ _ => ⟨⟩) v
theorem oneX_toL {v : Value} (h : oneX v = true) : toL v = [v] ∧ one v = true := by cases v <;> first | exact ⟨rfl, rfl⟩ | cases h
noncomputable def ldX (P : Program) (t : TypeId) (x : Value) (m : CM) : Option Value :=
  @Option.rec Bool (fun _ => Option Value) (cload P t x m)
    (fun g => @Bool.rec (fun _ => Option Value)
      (@Option.rec (Nat × Nat) (fun _ => Option Value) (cload P t x m)
        (fun p => @Option.rec (List Value × Nat × Bool) (fun _ => Option Value) (cload P t x m) (fun c => nthX c.1 p.2) (cellsX (getX m.t p.1))) (plcX x))
      (cload P t x m) g) (aggB P t)
theorem ldX_eq (P : Program) (t : TypeId) (x : Value) (m : CM) : ldX P t x m = cload P t x m := by
  unfold ldX
  cases ha : aggB P t with
  | none => rfl
  | some g =>
    cases g with
    | true => rfl
    | false =>
      cases hp : plcX x with
      | none => rfl
      | some p =>
        obtain ⟨b, o⟩ := p
        have := plcX_some hp
        subst this
        cases hc : cellsX (getX m.t b) with
        | none => simp only [hc]
        | some c =>
          obtain ⟨c, e, w⟩ := c
          have h1 := cellsX_some hc
          rw [getX_eq] at h1
          simp only [hc, nthX_eq, cload, CM.get, h1, ha]
/-- A store of one cell. -/
noncomputable def stX (P : Program) (t : TypeId) (x v : Value) (m : CM) : Option CM :=
  @Bool.rec (fun _ => Option CM) (cstore P t x v m)
    (@Option.rec (Nat × Nat) (fun _ => Option CM) (cstore P t x v m)
      (fun p => @Option.rec (List Value × Nat × Bool) (fun _ => Option CM) (cstore P t x v m)
        (fun c => @Bool.rec (fun _ => Option CM) (cstore P t x v m)
          (@Option.rec Value (fun _ => Option CM) (cstore P t x v m) (fun _ => some (msetX m p.1 (some (.cells (setX c.1 p.2 v) c.2.1 true)))) (nthX c.1 p.2)) c.2.2) (cellsX (getX m.t p.1))) (plcX x))
    (@Option.rec Nat (fun _ => Bool) false (fun n => @Bool.rec (fun _ => Bool) false (oneX v) (Nat.beq n 1)) (szOf P t))
theorem splice_one {c : List Value} {k : Nat} {v : Value} (h : k < c.length) : splice c k [v] = c.set k v := by
  rw [List.set_eq_take_append_cons_drop, if_pos h]
  simp [splice]
theorem stX_eq (P : Program) (t : TypeId) (x v : Value) (m : CM) : stX P t x v m = cstore P t x v m := by
  unfold stX
  cases hs : szOf P t with
  | none => rfl
  | some n =>
    cases hn : Nat.beq n 1 with
    | false => simp only [hn]
    | true =>
      have hn1 := Nat.eq_of_beq_eq_true hn
      cases ho : oneX v with
      | false => simp only [hn, ho]
      | true =>
        obtain ⟨hv, hv1⟩ := oneX_toL ho
        simp only [hn, ho]
        cases hp : plcX x with
        | none => rfl
        | some p =>
          obtain ⟨b, o⟩ := p
          have := plcX_some hp
          subst this
          cases hc : cellsX (getX m.t b) with
          | none => simp only [hc]
          | some c =>
            obtain ⟨c, e, w⟩ := c
            have h1 := cellsX_some hc
            rw [getX_eq] at h1
            cases w with
            | false => simp only [hc]
            | true =>
              simp only [hc]
              cases hk : nthX c o with
              | none => rfl
              | some y =>
                rw [nthX_eq] at hk
                have hol : o < c.length := (List.getElem?_eq_some_iff.1 hk).1
                simp only [cstore, cstoreL, CM.get, h1, hs, hv, hn1, List.length_cons, List.length_nil, List.all_cons, List.all_nil, hv1, msetX_eq, setX_eq]
                rw [if_pos trivial, if_pos ⟨by omega, rfl⟩, splice_one hol]
                rfl
/-- Blocks laid over. -/
noncomputable def overX (m : CM) (lo : Nat) (k : Nat) (x : CM) : CM :=
  @Nat.rec (fun _ => CM) m (fun k ih => msetX ih (lo + k) (getX x.t (lo + k))) k
theorem overX_eq (m : CM) (lo : Nat) (x : CM) : ∀ k, overX m lo k x = m.over lo k x
  | 0 => rfl
  | k + 1 => by
    show msetX (overX m lo k x) (lo + k) (getX x.t (lo + k)) = _
    rw [overX_eq m lo x k, msetX_eq, getX_eq]
    rfl
noncomputable def ovrE (m : CM) (e : Ent) : CM := @Option.rec CM (fun _ => CM) m (fun x => overX m e.lo (x.next - e.lo) x) e.m
theorem ovrE_eq (m : CM) (e : Ent) : ovrE m e = overE m e := by
  unfold ovrE overE
  cases e.m with
  | none => rfl
  | some x => exact overX_eq ..
noncomputable def intX (v : Value) : Option Int :=
  @Value.rec (fun _ => Option Int) (fun _ => PUnit) (fun _ => PUnit) (fun _ => none) (fun _ n => some n) (fun _ _ => none) (fun _ _ _ => none) (fun _ => none)
    (fun _ => none) (fun _ _ _ => none) (fun _ => none) (fun _ => none) (fun _ _ _ _ _ => none) none (fun _ _ _ => none) none (fun _ _ => none) (fun _ _ => none) (fun _ _ => ⟨⟩) ⟨⟩ (fun _ _ _ _ => ⟨⟩) v
theorem intX_some {v : Value} {n : Int} (h : intX v = some n) : ∃ k, v = .int k n := by
  cases v with
  | int k m => cases h; exact ⟨k, rfl⟩
  | _ => cases h
/-- An array type: its length and its elements' size. -/
def arrX (P : Program) (t : TypeId) : Option (Nat × Nat) := match P.underlying t with | some (.array n e) => (szOf P e).map fun s => (n, s) | _ => none
noncomputable def iaX (P : Program) (t : TypeId) (x i : Value) : Option Value :=
  @Option.rec (Nat × Nat) (fun _ => Option Value) (cia P t x i)
    (fun ns => @Option.rec (Nat × Nat) (fun _ => Option Value) (cia P t x i)
      (fun p => @Option.rec Int (fun _ => Option Value) (cia P t x i)
        (fun k => @Int.rec (fun _ => Option Value) (fun k => @Bool.rec (fun _ => Option Value) (cia P t x i) (some (.pointer (some ⟨p.1, p.2 + k * ns.2, none⟩))) (Nat.blt k ns.1)) (fun _ => cia P t x i) k) (intX i)) (plcX x)) (arrX P t)
theorem iaX_eq (P : Program) (t : TypeId) (x i : Value) : iaX P t x i = cia P t x i := by
  unfold iaX
  cases ha : arrX P t with
  | none => rfl
  | some ns =>
    obtain ⟨n, s⟩ := ns
    cases hp : plcX x with
    | none => rfl
    | some p =>
      obtain ⟨b, o⟩ := p
      have := plcX_some hp
      subst this
      cases hi : intX i with
      | none => simp only [hi]
      | some k =>
        obtain ⟨kk, rfl⟩ := intX_some hi
        simp only [hi]
        cases k with
        | negSucc k => rfl
        | ofNat k =>
          simp only
          cases hk : Nat.blt k n with
          | false => rfl
          | true =>
            have hlt : k < n := by simpa [Nat.blt_eq] using hk
            unfold arrX at ha
            split at ha
            · rename_i n' e hu
              cases hs : szOf P e with
              | none => rw [hs] at ha; cases ha
              | some s' =>
                rw [hs] at ha
                cases ha
                simp only [cia, hu, hs]
                rw [if_pos ⟨by simp, by simp only [Int.ofNat_eq_natCast]; omega⟩]
                rfl
            · cases ha
end Go.Proofs.Ytjkfleibnojjaaa
