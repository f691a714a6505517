/- Part 1 of 23 of the proof that the law TopAnewStore returns true and leaves its argument as it read before, for every input that the bounded statement admits (what it reads is of bulk at most 1048576). -/
import Derived.CallsIn
import Derived.RangeFuncIn
import Derived.Laws.World
import Derived.Laws.Sem
import Derived.RecoverIn
import Derived.Scope
import Derived.Laws.Tables
section
namespace Go.Proofs.Ytjkfleibnojjaaa
open Go

/-! A finite map from numbers, as a binary trie: 'get', 'put'. -/
inductive T (α : Type) where
  | nil
  | node (l : T α) (v : Option α) (r : T α)

namespace T
variable {α : Type}
def get : T α → Nat → Option α
  | .nil, _ => none
  | .node l v r, k => if k = 0 then v else if k % 2 = 1 then l.get (k / 2) else r.get (k / 2 - 1)
def put : Nat → T α → Nat → Option α → T α
  | 0, t, _, _ => t
  | f + 1, .nil, k, x =>
    if k = 0 then .node .nil x .nil else if k % 2 = 1 then .node (put f .nil (k / 2) x) none .nil else .node .nil none (put f .nil (k / 2 - 1) x)
  | f + 1, .node l v r, k, x =>
    if k = 0 then .node l x r else if k % 2 = 1 then .node (put f l (k / 2) x) v r else .node l v (put f r (k / 2 - 1) x)
theorem get_put : ∀ (f : Nat) (t : T α) (k : Nat) (x : Option α) (j : Nat), k < f → (put f t k x).get j = if j = k then x else t.get j := by
  intro f
  induction f with
  | zero => intro t k x j h; omega
  | succ f ih =>
    intro t k x j h
    cases t with
    | nil =>
      simp only [put]
      by_cases hk : k = 0
      · subst hk; simp only [if_true]
        by_cases hj : j = 0
        · simp [get, hj]
        · simp [get, hj]
      · simp only [hk, if_false]
        by_cases h1 : k % 2 = 1
        · simp only [h1, if_true]
          by_cases hj : j = 0
          · subst hj; simp [get, Ne.symm hk]
          · by_cases hj1 : j % 2 = 1
            · simp only [get, hj, hj1, if_true, if_false]
              rw [ih _ _ _ _ (by omega)]
              by_cases e : j = k
              · simp [e]
              · rw [if_neg (by omega), if_neg e]; simp [get]
            · simp only [get, hj, hj1, if_false]
              rw [if_neg (by omega)]
        · simp only [h1, if_false]
          by_cases hj : j = 0
          · subst hj; simp [get, Ne.symm hk]
          · by_cases hj1 : j % 2 = 1
            · simp only [get, hj, hj1, if_true, if_false]
              rw [if_neg (by omega)]
            · simp only [get, hj, hj1, if_false]
              rw [ih _ _ _ _ (by omega)]
              by_cases e : j = k
              · simp [e]
              · rw [if_neg (by omega), if_neg e]; simp [get]
    | node l v r =>
      simp only [put]
      by_cases hk : k = 0
      · subst hk; simp only [if_true]
        by_cases hj : j = 0
        · simp [get, hj]
        · simp [get, hj]
      · simp only [hk, if_false]
        by_cases h1 : k % 2 = 1
        · simp only [h1, if_true]
          by_cases hj : j = 0
          · subst hj; simp [get, Ne.symm hk]
          · by_cases hj1 : j % 2 = 1
            · simp only [get, hj, hj1, if_true, if_false]
              rw [ih _ _ _ _ (by omega)]
              by_cases e : j = k
              · simp [e]
              · rw [if_neg (by omega), if_neg e]
            · simp only [get, hj, hj1, if_false]
              rw [if_neg (by omega)]
        · simp only [h1, if_false]
          by_cases hj : j = 0
          · subst hj; simp [get, Ne.symm hk]
          · by_cases hj1 : j % 2 = 1
            · simp only [get, hj, hj1, if_true, if_false]
              rw [if_neg (by omega)]
            · simp only [get, hj, hj1, if_false]
              rw [ih _ _ _ _ (by omega)]
              by_cases e : j = k
              · simp [e]
              · rw [if_neg (by omega), if_neg e]
end T

/-- A function's temporaries. -/
structure CA where
  n : Nat
  ρ : Nat → Value
  ds : List Deferred

/-- A loop over a function: its state, the jump that waits, the temporaries, the loop's variables, the assignment to them, the body, the block of its deferred calls. -/
structure CL where
  state : LoopState
  pending : Option Code
  a : CA
  params : List Tmp
  assign : Code
  body : Code
  defers : Nat

/-- A block of the plain memory: cells (how many one element takes; whether the call may write it), a map, a loop over a function, the block of the deferred calls, a walk over a string. -/
inductive CB where
  | cells (c : List Value) (esz : Nat) (own : Bool)
  | map (es : List (Value × Value))
  | loop (l : CL)
  | dfr
  | siter (s : ByteArray) (pos : Nat)

def CB.own : CB → Bool
  | .cells _ _ o => o
  | _ => true

/-- The plain memory. -/
structure CM where
  t : T CB
  next : Nat

namespace CM
def get (m : CM) (b : Nat) : Option CB := m.t.get b
def set (m : CM) (b : Nat) (x : Option CB) : CM := { m with t := T.put (b + 1) m.t b x }
def put (m : CM) (b : Nat) (x : CB) : CM := m.set b (some x)
def alloc (m : CM) (x : CB) : CM := { t := T.put (m.next + 1) m.t m.next (some x), next := m.next + 1 }
theorem get_set (m : CM) (b : Nat) (x : Option CB) (j : Nat) : (m.set b x).get j = if j = b then x else m.get j := T.get_put _ _ _ _ _ (by omega)
theorem get_put (m : CM) (b : Nat) (x : CB) (j : Nat) : (m.put b x).get j = if j = b then some x else m.get j := get_set ..
theorem get_alloc (m : CM) (x : CB) (j : Nat) : (m.alloc x).get j = if j = m.next then some x else m.get j := T.get_put _ _ _ _ _ (by omega)
@[simp] theorem next_set (m : CM) (b : Nat) (x : Option CB) : (m.set b x).next = m.next := rfl
@[simp] theorem next_put (m : CM) (b : Nat) (x : CB) : (m.put b x).next = m.next := rfl
@[simp] theorem next_alloc (m : CM) (x : CB) : (m.alloc x).next = m.next + 1 := rfl
end CM

/-- Where a plain block lies in the world: block, first cell, how many cells there are to it, cells an element; or which address an empty slice bears of which nothing else is known. -/
structure Pl where
  blk : Nat
  off : Nat
  lim : Nat
  esz : Nat
  al : Option Addr

abbrev Inj := Nat → Option Pl

/-- The address of a plain address. -/
def trA (ι : Inj) (a : Addr) : Option Addr :=
  match a.spot with
  | none => (ι a.block).map fun p => ⟨p.blk, p.off + a.off, none⟩
  | some _ => none

/-- The slice of a plain slice. The plain capacity: 0: what there is; k + 1: k. A plain address with a spot s: the empty slice behind element s. -/
def trS (ι : Inj) (a : Addr) (l k : Nat) : Option Value :=
  match ι a.block with
  | none => none
  | some p =>
    let cap := if k = 0 then (p.lim - a.off) / p.esz else k - 1
    match a.spot with
    | none => if l ≤ cap then some (.slice (some ⟨p.blk, p.off + a.off, none⟩) l cap) else none
    | some s => if l = 0 ∧ s ≤ cap then some (.slice (some (if p.esz = 0 then p.al.getD ⟨p.blk, p.off + a.off, none⟩ else if s = cap then ⟨p.blk, p.off + a.off, none⟩ else ⟨p.blk, p.off + a.off + s * p.esz, none⟩)) 0 (cap - s)) else none

def trFn (ι : Inj) : Fn → Option Fn
  | .yield l => (ι l).map fun p => .yield p.blk
  | f => some f

mutual
def tr (ι : Inj) : Value → Option Value
  | .bool b => some (.bool b)
  | .int k n => some (.int k n)
  | .float _ _ => none
  | .complex _ _ _ => none
  | .string s => some (.string s)
  | .pointer none => some (.pointer none)
  | .pointer (some a) => (trA ι a).map fun a => .pointer (some a)
  | .slice none l k => if l = 0 ∧ k = 0 then some (.slice none 0 0) else none
  | .slice (some a) l k => trS ι a l k
  | .map none => some (.map none)
  | .map (some r) => (ι r).map fun p => .map (some p.blk)
  | .chan _ => none
  | .func fn ⟨f⟩ ⟨c⟩ => match trFn ι fn, trL ι f, trL ι c with | some fn, some f, some c => some (.func fn ⟨f⟩ ⟨c⟩) | _, _, _ => none
  | .nilFunc => some .nilFunc
  | .iface t v => (tr ι v).map (.iface t)
  | .nilIface => some .nilIface
  | .agg ⟨l⟩ => (trL ι l).map fun l => .agg ⟨l⟩
  | .tuple ⟨l⟩ => (trL ι l).map fun l => .tuple ⟨l⟩
def trL (ι : Inj) : List Value → Option (List Value)
  | [] => some []
  | v :: l => match tr ι v, trL ι l with | some v, some l => some (v :: l) | _, _ => none
end

def Inj.le (ι ι' : Inj) : Prop := ∀ b p, ι b = some p → ι' b = some p
theorem Inj.le.refl (ι : Inj) : ι.le ι := fun _ _ h => h
theorem Inj.le.trans {a b c : Inj} (h : a.le b) (k : b.le c) : a.le c := fun x p hx => k x p (h x p hx)

theorem trA_mono {ι ι' : Inj} (h : ι.le ι') {a a' : Addr} (ha : trA ι a = some a') : trA ι' a = some a' := by
  unfold trA at *
  cases hs : a.spot with
  | some s => simp [hs] at ha
  | none =>
    simp only [hs] at ha ⊢
    cases hi : ι a.block with
    | none => simp [hi] at ha
    | some p => rw [h _ _ hi]; rw [hi] at ha; exact ha
theorem trS_mono {ι ι' : Inj} (h : ι.le ι') {a : Addr} {l k : Nat} {v : Value} (ha : trS ι a l k = some v) : trS ι' a l k = some v := by
  unfold trS at *
  cases hi : ι a.block with
  | none => simp [hi] at ha
  | some p => rw [h _ _ hi]; rw [hi] at ha; exact ha
theorem trFn_mono {ι ι' : Inj} (h : ι.le ι') {f f' : Fn} (ha : trFn ι f = some f') : trFn ι' f = some f' := by
  cases f with
  | yield l =>
    simp only [trFn] at *
    cases hi : ι l with
    | none => simp [hi] at ha
    | some p => rw [h _ _ hi]; rw [hi] at ha; exact ha
  | _ => simpa [trFn] using ha

mutual
theorem tr_mono {ι ι' : Inj} (h : ι.le ι') : ∀ (v v' : Value), tr ι v = some v' → tr ι' v = some v'
  | .bool b, v', e => by simpa [tr] using e
  | .int k n, v', e => by simpa [tr] using e
  | .float _ _, v', e => by simp [tr] at e
  | .complex _ _ _, v', e => by simp [tr] at e
  | .string s, v', e => by simpa [tr] using e
  | .pointer none, v', e => by simpa [tr] using e
  | .pointer (some a), v', e => by
    simp only [tr] at *
    cases ha : trA ι a with
    | none => simp [ha] at e
    | some a' => rw [trA_mono h ha]; rw [ha] at e; exact e
  | .slice none l k, v', e => by simpa [tr] using e
  | .slice (some a) l k, v', e => by simp only [tr] at *; exact trS_mono h e
  | .map none, v', e => by simpa [tr] using e
  | .map (some r), v', e => by
    simp only [tr] at *
    cases hi : ι r with
    | none => simp [hi] at e
    | some p => rw [h _ _ hi]; rw [hi] at e; exact e
  | .chan _, v', e => by simp [tr] at e
  | .func fn ⟨f⟩ ⟨c⟩, v', e => by
    simp only [tr] at *
    cases h1 : trFn ι fn with
    | none => simp [h1] at e
    | some fn' =>
      cases h2 : trL ι f with
      | none => simp [h1, h2] at e
      | some f' =>
        cases h3 : trL ι c with
        | none => simp [h1, h2, h3] at e
        | some c' => rw [trFn_mono h h1, trL_mono h _ _ h2, trL_mono h _ _ h3]; rw [h1, h2, h3] at e; exact e
  | .nilFunc, v', e => by simpa [tr] using e
  | .iface t v, v', e => by
    simp only [tr] at *
    cases h1 : tr ι v with
    | none => simp [h1] at e
    | some u => rw [tr_mono h _ _ h1]; rw [h1] at e; exact e
  | .nilIface, v', e => by simpa [tr] using e
  | .agg ⟨l⟩, v', e => by
    simp only [tr] at *
    cases h1 : trL ι l with
    | none => simp [h1] at e
    | some u => rw [trL_mono h _ _ h1]; rw [h1] at e; exact e
  | .tuple ⟨l⟩, v', e => by
    simp only [tr] at *
    cases h1 : trL ι l with
    | none => simp [h1] at e
    | some u => rw [trL_mono h _ _ h1]; rw [h1] at e; exact e
theorem trL_mono {ι ι' : Inj} (h : ι.le ι') : ∀ (v v' : List Value), trL ι v = some v' → trL ι' v = some v'
  | [], v', e => by simpa [trL] using e
  | v :: l, v', e => by
    simp only [trL] at *
    cases h1 : tr ι v with
    | none => simp [h1] at e
    | some u =>
      cases h2 : trL ι l with
      | none => simp [h1, h2] at e
      | some u2 => rw [tr_mono h _ _ h1, trL_mono h _ _ h2]; rw [h1, h2] at e; exact e
end
end Go.Proofs.Ytjkfleibnojjaaa
end

section
namespace Go.Proofs.Ytjkfleibnojjaaa
open Go

/-! ### What relates a plain memory to a world -/

def CB.live : CB → Bool
  | .cells c _ own => own || !c.isEmpty
  | _ => true

/-- A plain loop record and the world's. -/
structure LRel (ι : Inj) (l : CL) (l' : Loop) : Prop where
  state : l'.state = l.state
  pending : l'.pending = l.pending
  size : l'.tmps.size = l.a.n
  tmps : ∀ t, tr ι (l.a.ρ t) = some (l'.tmps.getD t undef)
  params : l'.params.toList = l.params
  assign : l'.assign = l.assign
  body : l'.body = l.body
  defers : ∃ p, ι l.defers = some p ∧ l'.defers = p.blk

def keyOk : Value → Bool
  | .bool _ | .int _ _ | .string _ => true
  | .agg ⟨l⟩ => l.all fun | .bool _ | .int _ _ | .string _ => true | _ => false
  | _ => false

/-- The entries of a plain map and the world's, in order. -/
inductive MRel (ι : Inj) : List (Value × Value) → List MapEntry → Prop where
  | nil : MRel ι [] []
  | cons {k v v' : Value} {b : Nat} {es : List (Value × Value)} {es' : List MapEntry} (hk : keyOk k = true) (hv : tr ι v = some v') (h : MRel ι es es') :
    MRel ι ((k, v) :: es) ({ key := k, val := v', born := b } :: es')

def BRel (ι : Inj) (p : Pl) (w : World) : CB → Prop
  | .cells c esz own => p.esz = esz ∧ c.length ≤ p.lim ∧ (∀ (i : Nat) (v : Value), c[i]? = some v → ∃ v', tr ι v = some v' ∧ w.cell? ⟨p.blk, p.off + i, none⟩ = some v') ∧
      (own = true → p.off = 0 ∧ ∃ arr e, w.heap[p.blk]? = some (.cells arr e (0, 0)) ∧ arr.size = p.lim)
  | .map es => ∃ en clock, w.heap[p.blk]? = some (.map en clock) ∧ MRel ι es en.toList
  | .loop l => ∃ l', w.heap[p.blk]? = some (.loop l') ∧ LRel ι l l'
  | .dfr => w.heap[p.blk]? = some (.deferred (some []))
  | .siter s pos => p.off = 0 ∧ w.heap[p.blk]? = some (.stringIter s pos)

structure Rel (ι : Inj) (m : CM) (w : World) : Prop where
  fresh : ∀ b, m.next ≤ b → ι b = none
  low : ∀ b p, ι b = some p → p.blk < w.heap.size
  blk : ∀ b x, m.get b = some x → ∃ p, ι b = some p ∧ BRel ι p w x
  apart : ∀ b b' x x' p p', m.get b = some x → m.get b' = some x' → b ≠ b' → x.own = true → x'.live = true → ι b = some p → ι b' = some p' → p.blk ≠ p'.blk

/-- What a step from (ι, m, w) to (ι', m', w') leaves. -/
structure Fr (ι : Inj) (m : CM) (w : World) (ι' : Inj) (m' : CM) (w' : World) : Prop where
  os : w'.os = w.os
  tape : w'.tape = w.tape
  output : w'.output = w.output
  size : w.heap.size ≤ w'.heap.size
  keep : ∀ B, B < w.heap.size → (∀ b x p, m.get b = some x → x.own = true → ι b = some p → p.blk ≠ B) → w'.heap[B]? = w.heap[B]?
  born : ∀ b x p, m'.get b = some x → ι' b = some p → w.heap.size ≤ p.blk ∨ ∃ b0 x0 p0, m.get b0 = some x0 ∧ ι b0 = some p0 ∧ p0.blk = p.blk ∧ (b0 = b ∨ x0.own = true)
  stay : ∀ b x x', m.get b = some x → m'.get b = some x' → x'.own = x.own
  next : m.next ≤ m'.next
  old : ∀ b, b < m.next → m.get b = none → m'.get b = none
  inj : ∀ b, b < m.next → ι' b = ι b

theorem Fr.refl (ι : Inj) (m : CM) (w : World) : Fr ι m w ι m w :=
  ⟨rfl, rfl, rfl, Nat.le_refl _, fun _ _ _ => rfl, fun b x p h hp => .inr ⟨b, x, p, h, hp, rfl, .inl rfl⟩, fun b x x' h h' => by rw [h] at h'; cases h'; rfl, Nat.le_refl _, fun _ _ h => h, fun _ _ => rfl⟩

theorem Fr.trans {ι ι1 ι2 : Inj} {m m1 m2 : CM} {w w1 w2 : World} (hr : Rel ι m w) (hr1 : Rel ι1 m1 w1) (hle : ι.le ι1) (h : Fr ι m w ι1 m1 w1) (k : Fr ι1 m1 w1 ι2 m2 w2) : Fr ι m w ι2 m2 w2 where
  os := k.os.trans h.os
  tape := k.tape.trans h.tape
  output := k.output.trans h.output
  size := Nat.le_trans h.size k.size
  keep B hB hno := by
    rw [k.keep B (Nat.lt_of_lt_of_le hB h.size) ?_, h.keep B hB hno]
    intro b x p hb ho hp e
    rcases h.born b x p hb hp with hs | ⟨b0, x0, p0, h0, hp0, e0, hor⟩
    · omega
    · rcases hor with rfl | ho0
      · exact hno _ _ _ h0 (by rw [← h.stay _ _ _ h0 hb]; exact ho) hp0 (e0.trans e)
      · exact hno _ _ _ h0 ho0 hp0 (e0.trans e)
  born b x p hb hp := by
    rcases k.born b x p hb hp with hs | ⟨b1, x1, p1, h1, hp1, e1, hor⟩
    · exact .inl (Nat.le_trans h.size hs)
    · rcases h.born b1 x1 p1 h1 hp1 with hs | ⟨b0, x0, p0, h0, hp0, e0, hor0⟩
      · exact .inl (by omega)
      · refine .inr ⟨b0, x0, p0, h0, hp0, e0.trans e1, ?_⟩
        rcases hor0 with rfl | ho0
        · rcases hor with rfl | ho1
          · exact .inl rfl
          · exact .inr (by rw [← h.stay _ _ _ h0 h1]; exact ho1)
        · exact .inr ho0
  stay b x x' hb hb' := by
    cases h1 : m1.get b with
    | some x1 => rw [k.stay _ _ _ h1 hb', h.stay _ _ _ hb h1]
    | none =>
      have hlt : b < m1.next := by
        apply Nat.lt_of_not_le; intro hc
        obtain ⟨p, hp, _⟩ := hr.blk _ _ hb
        have := hr1.fresh b hc
        rw [hle _ _ hp] at this; cases this
      rw [k.old b hlt h1] at hb'; cases hb'
  next := Nat.le_trans h.next k.next
  old b hb hn := k.old b (Nat.lt_of_lt_of_le hb h.next) (h.old b hb hn)
  inj b hb := (k.inj b (Nat.lt_of_lt_of_le hb h.next)).trans (h.inj b hb)

theorem Rel.lt {ι : Inj} {m : CM} {w : World} (h : Rel ι m w) {b : Nat} {x : CB} (hb : m.get b = some x) : b < m.next := by
  apply Nat.lt_of_not_le; intro hc
  obtain ⟨p, hp, _⟩ := h.blk _ _ hb
  rw [h.fresh b hc] at hp; cases hp

/-! ### A function's temporaries -/

def CA.put (a : CA) (dst : Option Tmp) (v : Value) : CA :=
  match dst with
  | some d => { a with ρ := fun t => if t = d then v else a.ρ t }
  | none => a
def dOk (n : Nat) (d : Option Tmp) : Bool := match d with | some d => d < n | none => true

def CA.ev (a : CA) : Operand → Value
  | .tmp t => a.ρ t
  | .const v => v
  | .global _ => .chan none
  | .func f => .func (.func f) #[] #[]

mutual
def plainV : Value → Bool
  | .bool _ | .int _ _ | .string _ | .pointer none | .map none | .nilFunc | .nilIface => true
  | .slice none l k => l == 0 && k == 0
  | .iface _ v => plainV v
  | .agg ⟨l⟩ => plainL l
  | .tuple ⟨l⟩ => plainL l
  | _ => false
def plainL : List Value → Bool
  | [] => true
  | v :: l => plainV v && plainL l
end

mutual
theorem tr_plain (ι : Inj) : ∀ (v : Value), plainV v = true → tr ι v = some v
  | .bool b, _ => by simp [tr]
  | .int k n, _ => by simp [tr]
  | .float _ _, h => by simp [plainV] at h
  | .complex _ _ _, h => by simp [plainV] at h
  | .string s, _ => by simp [tr]
  | .pointer none, _ => by simp [tr]
  | .pointer (some a), h => by simp [plainV] at h
  | .slice none l k, h => by simp only [plainV, Bool.and_eq_true, beq_iff_eq] at h; simp [tr, h]
  | .slice (some a) l k, h => by simp [plainV] at h
  | .map none, _ => by simp [tr]
  | .map (some r), h => by simp [plainV] at h
  | .chan _, h => by simp [plainV] at h
  | .func fn f c, h => by simp [plainV] at h
  | .nilFunc, _ => by simp [tr]
  | .iface t v, h => by simp only [plainV] at h; simp [tr, tr_plain ι v h]
  | .nilIface, _ => by simp [tr]
  | .agg ⟨l⟩, h => by simp only [plainV] at h; simp [tr, trL_plain ι l h]
  | .tuple ⟨l⟩, h => by simp only [plainV] at h; simp [tr, trL_plain ι l h]
theorem trL_plain (ι : Inj) : ∀ (l : List Value), plainL l = true → trL ι l = some l
  | [], _ => by simp [trL]
  | v :: l, h => by
    simp only [plainL, Bool.and_eq_true] at h
    simp [trL, tr_plain ι v h.1, trL_plain ι l h.2]
end

def trD (ι : Inj) (d : Deferred) : Option Deferred :=
  match d.target with
  | .fn fn ⟨c⟩ => match trFn ι fn, trL ι c, trL ι d.args.toList with | some fn, some c, some l => some { target := .fn fn ⟨c⟩, args := ⟨l⟩ } | _, _, _ => none
  | .collected r => (ι r).map fun p => { target := .collected p.blk, args := d.args }
  | _ => none
def trDs (ι : Inj) : List Deferred → Option (List Deferred)
  | [] => some []
  | d :: ds => match trD ι d, trDs ι ds with | some d, some ds => some (d :: ds) | _, _ => none
theorem trD_mono {ι ι' : Inj} (h : ι.le ι') {d d' : Deferred} (e : trD ι d = some d') : trD ι' d = some d' := by
  obtain ⟨t, args⟩ := d
  cases t with
  | fn fn c =>
    obtain ⟨c⟩ := c
    simp only [trD] at *
    cases h1 : trFn ι fn with
    | none => simp [h1] at e
    | some fn' =>
      cases h2 : trL ι c with
      | none => simp [h1, h2] at e
      | some f' =>
        cases h3 : trL ι args.toList with
        | none => simp [h1, h2, h3] at e
        | some c' => rw [trFn_mono h h1, trL_mono h _ _ h2, trL_mono h _ _ h3]; rw [h1, h2, h3] at e; exact e
  | collected r =>
    simp only [trD] at *
    cases hi : ι r with
    | none => simp [hi] at e
    | some p => rw [h _ _ hi]; rw [hi] at e; exact e
  | nil => simp [trD] at e
  | builtin _ _ _ _ => simp [trD] at e
  | coroexit _ => simp [trD] at e
theorem trDs_mono {ι ι' : Inj} (h : ι.le ι') : ∀ {d d' : List Deferred}, trDs ι d = some d' → trDs ι' d = some d'
  | [], d', e => by simpa [trDs] using e
  | d :: ds, d', e => by
    simp only [trDs] at *
    cases h1 : trD ι d with
    | none => simp [h1] at e
    | some u =>
      cases h2 : trDs ι ds with
      | none => simp [h1, h2] at e
      | some u2 => rw [trD_mono h h1, trDs_mono h h2]; rw [h1, h2] at e; exact e

structure RelA (ι : Inj) (a : CA) (aw : Act) : Prop where
  size : aw.tmps.size = a.n
  tmps : ∀ t, tr ι (a.ρ t) = some (aw.tmps.getD t undef)
  ds : trDs ι a.ds = some aw.defers

theorem RelA.mono {ι ι' : Inj} (h : ι.le ι') {a : CA} {aw : Act} (k : RelA ι a aw) : RelA ι' a aw :=
  ⟨k.size, fun t => tr_mono h _ _ (k.tmps t), trDs_mono h k.ds⟩

theorem RelA.put {ι : Inj} {a : CA} {aw : Act} (k : RelA ι a aw) (dst : Option Tmp) (hd : dOk a.n dst = true) {v v' : Value} (hv : tr ι v = some v') : RelA ι (a.put dst v) (aw.put dst v') := by
  cases dst with
  | none => exact k
  | some d =>
    have hd : d < a.n := by simpa [dOk] using hd
    refine ⟨by simp [Act.put, CA.put, k.size], fun t => ?_, k.ds⟩
    simp only [CA.put, Act.put, Array.getD_eq_getD_getElem?, Array.getElem?_setIfInBounds]
    by_cases e : t = d
    · subst e; rw [if_pos rfl, if_pos rfl, if_pos (by rw [k.size]; exact hd)]; simpa using hv
    · rw [if_neg e, if_neg (Ne.symm e)]; have := k.tmps t; simpa [Array.getD_eq_getD_getElem?] using this
theorem put_n (a : CA) (d : Option Tmp) (v : Value) : (a.put d v).n = a.n := by cases d <;> rfl
theorem put_ds (a : CA) (d : Option Tmp) (v : Value) : (a.put d v).ds = a.ds := by cases d <;> rfl
theorem put_ρ (a : CA) (d : Option Tmp) (v : Value) (t : Nat) : (a.put d v).ρ t = if d = some t then v else a.ρ t := by
  cases d with
  | none => simp [CA.put]
  | some d =>
    simp only [CA.put]
    by_cases e : t = d
    · subst e; rw [if_pos rfl, if_pos rfl]
    · rw [if_neg e, if_neg (by rintro h; cases h; exact e rfl)]

def opdOk : Operand → Bool
  | .const v => plainV v
  | .global _ => false
  | _ => true

theorem RelA.ev {ι : Inj} {a : CA} {aw : Act} (k : RelA ι a aw) {x : Operand} (hx : opdOk x = true) : tr ι (a.ev x) = some (aw.eval x) := by
  cases x with
  | tmp t => exact k.tmps t
  | const v => exact tr_plain ι v hx
  | global g => simp [opdOk] at hx
  | func f => simp [CA.ev, Act.eval, tr, trFn, trL]

def trP (ι : Inj) (e : PanicEntry) : Option PanicEntry := (tr ι e.v).map fun v => { e with v }
def trPs (ι : Inj) : List PanicEntry → Option (List PanicEntry)
  | [] => some []
  | d :: ds => match trP ι d, trPs ι ds with | some d, some ds => some (d :: ds) | _, _ => none

def XRel (ι : Inj) : Exit → Exit → Prop
  | .normal, .normal => True
  | .ret, .ret => True
  | .exit i, .exit j => i = j
  | .goto i, .goto j => i = j
  | .panic c, .panic c' => trPs ι c = some c'
  | _, _ => False

theorem trP_mono {ι ι' : Inj} (h : ι.le ι') {d d' : PanicEntry} (e : trP ι d = some d') : trP ι' d = some d' := by
  simp only [trP] at *
  cases h1 : tr ι d.v with
  | none => simp [h1] at e
  | some u => rw [tr_mono h _ _ h1]; rw [h1] at e; exact e
theorem trPs_mono {ι ι' : Inj} (h : ι.le ι') : ∀ {d d' : List PanicEntry}, trPs ι d = some d' → trPs ι' d = some d'
  | [], d', e => by simpa [trPs] using e
  | d :: ds, d', e => by
    simp only [trPs] at *
    cases h1 : trP ι d with
    | none => simp [h1] at e
    | some u =>
      cases h2 : trPs ι ds with
      | none => simp [h1, h2] at e
      | some u2 => rw [trP_mono h h1, trPs_mono h h2]; rw [h1, h2] at e; exact e
theorem XRel.mono {ι ι' : Inj} (h : ι.le ι') {e e' : Exit} (k : XRel ι e e') : XRel ι' e e' := by
  cases e <;> cases e' <;> simp_all [XRel]
  exact trPs_mono h k

/-- The round of which the code is. -/
def FR (ι : Inj) : Option Nat → Fence → Prop
  | none, F => F = Fence.wide
  | some l, F => ∃ p, ι l = some p ∧ F = Fence.wide.inRound p.blk

theorem FR.mono {ι ι' : Inj} (h : ι.le ι') {r : Option Nat} {F : Fence} (k : FR ι r F) : FR ι' r F := by
  cases r with
  | none => exact k
  | some l => obtain ⟨p, hp, e⟩ := k; exact ⟨p, h _ _ hp, e⟩

theorem FR.fn {ι : Inj} {r : Option Nat} {F : Fence} (k : FR ι r F) : ∀ f, F.fn f := by
  cases r with
  | none => cases k; intro f; trivial
  | some l => obtain ⟨p, hp, rfl⟩ := k; intro f; trivial
theorem FR.depth {ι : Inj} {r : Option Nat} {F : Fence} (k : FR ι r F) : F.depth = none := by
  cases r with
  | none => cases k; rfl
  | some l => obtain ⟨p, hp, rfl⟩ := k; rfl
theorem FR.room {ι : Inj} {r : Option Nat} {F : Fence} (k : FR ι r F) : ∀ n, F.room n := by
  intro n d hd; rw [k.depth] at hd; cases hd

/-- THE MEANING OF A PLAIN STEP OF CODE: in every related world the code does the like. -/
def After (ι : Inj) (m : CM) (w : World) (e : Exit) (a' : CA) (m' : CM) (e' : Exit) (aw' : Act) (w' : World) : Prop :=
  ∃ ι', ι.le ι' ∧ Rel ι' m' w' ∧ RelA ι' a' aw' ∧ XRel ι' e e' ∧ Fr ι m w ι' m' w'

def CEvC (P : Program) (r : Option Nat) (c : Code) (a : CA) (m : CM) (e : Exit) (a' : CA) (m' : CM) : Prop :=
  ∀ ι w aw F, Rel ι m w → RelA ι a aw → FR ι r F → c.wpIn F 0 P (After ι m w e a' m') aw w

theorem After.trans {ι ι1 : Inj} {m m1 : CM} {w w1 : World} {e : Exit} {a' : CA} {m' : CM} {e' : Exit} {aw' : Act} {w' : World} (hr : Rel ι m w) (hr1 : Rel ι1 m1 w1) (hle : ι.le ι1) (hf : Fr ι m w ι1 m1 w1)
    (h : After ι1 m1 w1 e a' m' e' aw' w') : After ι m w e a' m' e' aw' w' := by
  obtain ⟨ι', hle', hrel, hra, hx, hf'⟩ := h
  exact ⟨ι', hle.trans hle', hrel, hra, hx, hf.trans hr hr1 hle hf'⟩

theorem after_refl {ι : Inj} {m : CM} {w : World} {e : Exit} {a : CA} {aw : Act} (hr : Rel ι m w) (ha : RelA ι a aw) {e' : Exit} (hx : XRel ι e e') : After ι m w e a m e' aw w :=
  ⟨ι, .refl ι, hr, ha, hx, .refl ..⟩

section control
variable {P : Program} {r : Option Nat}
theorem cev_skip (a : CA) (m : CM) : CEvC P r .skip a m .normal a m := fun _ _ _ _ hr ha _ => wpIn_skip (after_refl hr ha trivial)
theorem cev_label (l : Nat) (a : CA) (m : CM) : CEvC P r (.label l) a m .normal a m := fun _ _ _ _ hr ha _ => wpIn_label (after_refl hr ha trivial)
theorem cev_exit (id : Nat) (a : CA) (m : CM) : CEvC P r (.exit id) a m (.exit id) a m := fun _ _ _ _ hr ha _ => wpIn_exit (after_refl hr ha rfl)
theorem cev_goto (id : Nat) (a : CA) (m : CM) : CEvC P r (.goto id) a m (.goto id) a m := fun _ _ _ _ hr ha _ => wpIn_goto (after_refl hr ha rfl)
theorem cev_ret (a : CA) (m : CM) : CEvC P r .ret a m .ret a m := fun _ _ _ _ hr ha _ => wpIn_ret (after_refl hr ha trivial)
theorem cev_seq {x y : Code} {a a1 a2 : CA} {m m1 m2 : CM} {e : Exit} (h : CEvC P r x a m .normal a1 m1) (k : CEvC P r y a1 m1 e a2 m2) : CEvC P r (.seq x y) a m e a2 m2 := by
  intro ι w aw F hr ha hF
  refine wpIn_seq (wpIn_mono (h ι w aw F hr ha hF) ?_)
  rintro e' aw1 w1 ⟨ι1, hle, hr1, ha1, hx, hf⟩
  cases e' <;> simp only [XRel] at hx
  refine wpIn_mono (k ι1 w1 aw1 F hr1 ha1 (hF.mono hle)) ?_
  intro e' aw2 w2 hh
  exact hh.trans hr hr1 hle hf
theorem cev_seq_out {x y : Code} {a a1 : CA} {m m1 : CM} {e : Exit} (hn : e ≠ .normal) (h : CEvC P r x a m e a1 m1) : CEvC P r (.seq x y) a m e a1 m1 := by
  intro ι w aw F hr ha hF
  refine wpIn_seq (wpIn_mono (h ι w aw F hr ha hF) ?_)
  rintro e' aw1 w1 ⟨ι1, hle, hr1, ha1, hx, hf⟩
  cases e' <;> cases e <;> first | exact absurd rfl hn | exact hx.elim | exact ⟨ι1, hle, hr1, ha1, hx, hf⟩
theorem cev_cond {c : Operand} {x y : Code} {a a1 : CA} {m m1 : CM} {e : Exit} {b : Bool} (hc : opdOk c = true) (hb : a.ev c = .bool b) (h : CEvC P r (if b then x else y) a m e a1 m1) :
    CEvC P r (.cond c x y) a m e a1 m1 := by
  intro ι w aw F hr ha hF
  refine wpIn_cond (t := b) ?_ (h ι w aw F hr ha hF)
  have := ha.ev hc
  rw [hb] at this; simp [tr] at this; exact this.symm
def inBlkE (id : Nat) : Exit → Exit
  | .exit i => if i = id then .normal else .exit i
  | e => e
theorem cev_block {id : Nat} {x : Code} {a a1 : CA} {m m1 : CM} {e : Exit} (h : CEvC P r x a m e a1 m1) : CEvC P r (.block id x) a m (inBlkE id e) a1 m1 := by
  intro ι w aw F hr ha hF
  refine wpIn_block (wpIn_mono (h ι w aw F hr ha hF) ?_)
  rintro e' aw1 w1 ⟨ι1, hle, hr1, ha1, hx, hf⟩
  cases e' <;> cases e <;> simp only [XRel] at hx
  case exit.exit i j =>
    subst hx
    simp only [Exit.inBlock, inBlkE]
    split
    · exact ⟨ι1, hle, hr1, ha1, trivial, hf⟩
    · exact ⟨ι1, hle, hr1, ha1, rfl, hf⟩
  all_goals exact ⟨ι1, hle, hr1, ha1, hx, hf⟩
/-- A loop's rounds, up to the one that is left by a jump. -/
inductive LoopRuns (P : Program) (r : Option Nat) (x : Code) : CA → CM → Exit → CA → CM → Prop where
  | last {a a1 : CA} {m m1 : CM} {e : Exit} (hn : e ≠ .normal) (h : CEvC P r x a m e a1 m1) : LoopRuns P r x a m e a1 m1
  | next {a a1 a2 : CA} {m m1 m2 : CM} {e : Exit} (h : CEvC P r x a m .normal a1 m1) (k : LoopRuns P r x a1 m1 e a2 m2) : LoopRuns P r x a m e a2 m2

theorem cev_loop {x : Code} {a a2 : CA} {m m2 : CM} {e : Exit} (h : LoopRuns P r x a m e a2 m2) : CEvC P r (.loop x) a m e a2 m2 := by
  intro ι w aw F hr ha hF b kk cs hro hb hrm
  have key : ∀ {a : CA} {m : CM} {e : Exit} {a2 : CA} {m2 : CM}, LoopRuns P r x a m e a2 m2 → ∀ ι w aw, Rel ι m w → RelA ι a aw → FR ι r F →
      ∃ e' a' w', After ι m w e a2 m2 e' a' w' ∧ ArrivesIn (Machine.fenced P F) P (lone (b.atR aw (.code x :: .inLoop x :: kk)) cs w) b kk cs e' a' w' := by
    intro a m e a2 m2 h
    induction h with
    | last hn h =>
      intro ι w aw hr ha hF
      obtain ⟨e', aw1, w1, hq, harr⟩ := h ι w aw F hr ha hF b (.inLoop x :: kk) cs hro hb hrm
      refine ⟨e', aw1, w1, hq, ?_⟩
      obtain ⟨ι1, hle, hr1, ha1, hx, hf⟩ := hq
      refine .pass (x := .inLoop x) rfl (fun _ _ => .inl ?_) harr
      rintro rfl
      rename_i e _
      cases e <;> simp_all [XRel]
    | next h _ ih =>
      intro ι w aw hr ha hF
      obtain ⟨e', aw1, w1, ⟨ι1, hle, hr1, ha1, hx, hf⟩, harr⟩ := h ι w aw F hr ha hF b (.inLoop x :: kk) cs hro hb hrm
      cases e' <;> simp only [XRel] at hx
      obtain ⟨e2, aw2, w2, hq, harr2⟩ := ih ι1 w1 aw1 hr1 ha1 (hF.mono hle)
      exact ⟨e2, aw2, w2, hq.trans hr hr1 hle hf, .of_steps (StepsIn.trans harr (.one (fenced_calm hb hrm rfl) stepR_inLoop)) harr2⟩
  obtain ⟨e', a', w', hq, harr⟩ := key h ι w aw hr ha hF
  exact ⟨e', a', w', hq, .of_steps (.one (fenced_calm hb hrm rfl) stepR_loop) harr⟩
end control
end Go.Proofs.Ytjkfleibnojjaaa
end

section
namespace Go.Proofs.Ytjkfleibnojjaaa
open Go

/-! ### Calls -/
inductive CE where
  | ret (v : Value)
  | pan (ch : List PanicEntry)

def ERel (ι : Inj) : CE → Ending → Prop
  | .ret v, .returned v' => tr ι v = some v'
  | .pan c, .panicked c' => trPs ι c = some c'
  | _, _ => False

def isGo (P : Program) (f : FuncId) : Bool :=
  match P.funcs[f]? with
  | some fn => !(fn.name == "runtime.NumGoroutine") && fn.body.isSome
  | none => false

/-- What a call leaves in every related world. -/
def Ended (ι : Inj) (m : CM) (w : World) (e : CE) (m' : CM) (e' : Ending) (w' : World) : Prop :=
  ∃ ι', ι.le ι' ∧ Rel ι' m' w' ∧ ERel ι' e e' ∧ Fr ι m w ι' m' w'

def CEvCall (P : Program) (f : FuncId) (args : List Value) (m : CM) (e : CE) (m' : CM) : Prop :=
  isGo P f = true ∧ ∀ ι w args', Rel ι m w → trL ι args = some args' → CallsIn Fence.wide 0 P f ⟨args'⟩ w (Ended ι m w e m')

theorem run_callFunc {P : Program} {f : FuncId} (h : isGo P f = true) (args : Array Value) (w : World) : (callFunc f args).run P w = .ok (.enter f args) w := by
  unfold isGo at h
  unfold callFunc
  cases hf : P.funcs[f]? with
  | none => simp [hf] at h
  | some fn =>
    simp only [hf, Bool.and_eq_true, Bool.not_eq_true', beq_eq_false_iff_ne, ne_eq] at h
    obtain ⟨h1, h2⟩ := h
    cases hb : fn.body with
    | none => simp [hb] at h2
    | some c => simp [hf, h1, hb]

/-! ### What the model computes without memory -/
def pureRun {α : Type} (P : Program) : Sem α → Option α
  | .pure a => some a
  | .program k => pureRun P (k P)
  | .mark _ k => pureRun P k
  | .choose q k => if q.forced then pureRun P (k 0) else none
  | _ => none

theorem pureRun_run {α : Type} {P : Program} {s : Sem α} {a : α} (h : pureRun P s = some a) (w : World) : s.run P w = .ok a w := by
  induction s generalizing w with
  | pure x => simp [pureRun] at h; simp [Sem.run, h]
  | program k ih => simp only [pureRun] at h; simp only [Sem.run]; exact ih _ h w
  | mark x k ih => simp only [pureRun] at h; simp only [Sem.run]; exact ih h w
  | choose q k ih =>
    simp only [pureRun] at h
    split at h
    · rename_i hq; simp only [Sem.run, hq, if_true]; exact ih _ h w
    · cases h
  | _ => simp [pureRun] at h

/-! ### One operation -/
section op
variable (P : Program) (r : Option Nat) (o : Oper) (a : CA) (m : CM)

def OpVal (v : Value) (m' : CM) : Prop :=
  ∀ ι w aw F, Rel ι m w → RelA ι a aw → FR ι r F → ∀ (next : Act → World → Prop) (Q : Exit → Act → World → Prop),
    (∀ ι' w' v', ι.le ι' → Rel ι' m' w' → tr ι' v = some v' → Fr ι m w ι' m' w' → next (aw.put o.dst v') w') → o.wpIn F 0 P aw w next Q

def OpPan (ch : List PanicEntry) (m' : CM) : Prop :=
  ∀ ι w aw F, Rel ι m w → RelA ι a aw → FR ι r F → ∀ (next : Act → World → Prop) (Q : Exit → Act → World → Prop),
    (∀ ι' w' ch', ι.le ι' → Rel ι' m' w' → trPs ι' ch = some ch' → Fr ι m w ι' m' w' → Q (.panic ch') aw w') → o.wpIn F 0 P aw w next Q
end op

section
variable {P : Program} {r : Option Nat} {o : Oper} {a : CA} {m : CM}
theorem opVal_of_run {v : Value} {m' : CM} (hd : ∀ c, o.op ≠ .defer c)
    (h : ∀ ι w aw, Rel ι m w → RelA ι a aw → ∃ ι' w' v', ((execOp aw.eval o).run P w = .ok (.value v') w' ∨ ((execOp aw.eval o).run P w = .ok .skip w' ∧ v' = undef)) ∧ ι.le ι' ∧ Rel ι' m' w' ∧ tr ι' v = some v' ∧ Fr ι m w ι' m' w') :
    OpVal P r o a m v m' := by
  intro ι w aw F hr ha hF next Q hn
  obtain ⟨ι', w', v', hrun, hle, hr', hv, hf⟩ := h ι w aw hr ha
  refine ⟨fun f _ => hF.fn f, ?_⟩
  rw [Oper.semAt_eq _ _ _ hd]
  rcases hrun with hrun | ⟨hrun, rfl⟩
  · rw [hrun]; exact hn ι' w' v' hle hr' hv hf
  · rw [hrun]; exact hn ι' w' _ hle hr' hv hf
/-- An operation that leaves the world alone. -/
theorem opVal_of_pure {v : Value} (hd : ∀ c, o.op ≠ .defer c)
    (h : ∀ ι w aw, Rel ι m w → RelA ι a aw → ∃ v', (execOp aw.eval o).run P w = .ok (.value v') w ∧ tr ι v = some v') : OpVal P r o a m v m :=
  opVal_of_run hd fun ι w aw hr ha => let ⟨v', h1, h2⟩ := h ι w aw hr ha; ⟨ι, w, v', .inl h1, .refl ι, hr, h2, .refl ..⟩

/-! #### Operations without memory -/
theorem op_move {x : Operand} (ho : o.op = .move x) (hx : opdOk x = true) : OpVal P r o a m (a.ev x) m :=
  opVal_of_pure (by simp [ho]) fun ι w aw hr ha => ⟨aw.eval x, by simp [execOp, ho], ha.ev hx⟩
theorem op_assign {x : Operand} (ho : o.op = .assign x) (hx : opdOk x = true) : OpVal P r o a m (a.ev x) m :=
  opVal_of_pure (by simp [ho]) fun ι w aw hr ha => ⟨aw.eval x, by simp [execOp, ho], ha.ev hx⟩

theorem tr_bool {ι : Inj} {b : Bool} {v : Value} (h : tr ι (.bool b) = some v) : v = .bool b := by simpa [tr] using h.symm
theorem tr_int {ι : Inj} {k : IntKind} {n : Int} {v : Value} (h : tr ι (.int k n) = some v) : v = .int k n := by simpa [tr] using h.symm
theorem tr_string {ι : Inj} {s : ByteArray} {v : Value} (h : tr ι (.string s) = some v) : v = .string s := by simpa [tr] using h.symm

def cpick (c x y : Value) : Option Value := match c with | .bool b => some (if b then x else y) | _ => none
theorem op_pick {c x y : Operand} {v : Value} (ho : o.op = .pick c x y) (hc : opdOk c = true) (hx : opdOk x = true) (hy : opdOk y = true) (h : cpick (a.ev c) (a.ev x) (a.ev y) = some v) : OpVal P r o a m v m :=
  opVal_of_pure (by simp [ho]) fun ι w aw hr ha => by
    unfold cpick at h
    split at h
    · rename_i b hb
      have h1 := ha.ev hc
      rw [hb] at h1
      have h2 := tr_bool h1
      cases h
      cases b
      · exact ⟨aw.eval y, by simp [execOp, ho, h2, asBool], ha.ev hy⟩
      · exact ⟨aw.eval x, by simp [execOp, ho, h2, asBool], ha.ev hx⟩
    · cases h

def chk (v : Option Value) : Option Value := match v with | some v => if plainV v then some v else none | none => none
theorem chk_some {x : Option Value} {v : Value} (h : chk x = some v) : x = some v ∧ plainV v = true := by
  unfold chk at h
  split at h
  · split at h
    · cases h; exact ⟨rfl, by assumption⟩
    · cases h
  · cases h
/-- A slice, a pointer or a function that is there, against nil. -/
def cnilq (P : Program) (op : BinOp) (t : TypeId) (u v : Value) : Option Value :=
  match P.underlying t, u, v with
  | some (.slice _), .slice (some _) _ _, .slice none 0 0 => match op with | .eql => some (.bool false) | .neq => some (.bool true) | _ => none
  | some (.pointer _), .pointer (some _), .pointer none => match op with | .eql => some (.bool false) | .neq => some (.bool true) | _ => none
  | some (.func _ _ _), .func _ ⟨_⟩ ⟨_⟩, .nilFunc => match op with | .eql => some (.bool false) | .neq => some (.bool true) | _ => none
  | _, _, _ => none
def cbin (P : Program) (op : BinOp) (t : TypeId) (x y : Operand) (u v : Value) : Option Value :=
  if plainV u && plainV v then chk (pureRun P (do eqGuard op t x y u v; binOp op t u v)) else cnilq P op t u v
theorem equal_slice {P : Program} {t : TypeId} {e : TypeId} (hu : P.underlying t = some (.slice e)) (a : Addr) (l k l' k' : Nat) (w : World) : (Op.equal t (.slice (some a) l k) (.slice none l' k')).run P w = .ok false w := by
  unfold Op.equal Op.maxDepth
  rw [show (10000 : Nat) = 9999 + 1 from rfl, Op.equalIn]
  simp [underlying, hu]
theorem equal_pointer {P : Program} {t : TypeId} {e : TypeId} (hu : P.underlying t = some (.pointer e)) (a : Addr) (w : World) : (Op.equal t (.pointer (some a)) (.pointer none)).run P w = .ok false w := by
  unfold Op.equal Op.maxDepth
  rw [show (10000 : Nat) = 9999 + 1 from rfl, Op.equalIn]
  simp [underlying, hu]
theorem equal_func {P : Program} {t : TypeId} {p q r} (hu : P.underlying t = some (.func p q r)) (f : Fn) (c d) (w : World) : (Op.equal t (.func f c d) .nilFunc).run P w = .ok false w := by
  unfold Op.equal Op.maxDepth
  rw [show (10000 : Nat) = 9999 + 1 from rfl, Op.equalIn]
  simp [underlying, hu]
theorem trS_isS {ι : Inj} {a : Addr} {l k : Nat} {v : Value} (h : trS ι a l k = some v) : ∃ b l k, v = .slice (some b) l k := by
  unfold trS at h
  cases hi : ι a.block with
  | none => simp [hi] at h
  | some p =>
    simp only [hi] at h
    generalize (if k = 0 then _ else _) = cap at h
    cases hs : a.spot with
    | none =>
      simp only [hs] at h
      by_cases hc : l ≤ cap
      · rw [if_pos hc] at h; cases h; exact ⟨_, _, _, rfl⟩
      · rw [if_neg hc] at h; cases h
    | some s =>
      simp only [hs] at h
      by_cases hc : l = 0 ∧ s ≤ cap
      · rw [if_pos hc] at h; cases h; exact ⟨_, _, _, rfl⟩
      · rw [if_neg hc] at h; cases h
theorem cnilq_run {P : Program} {op : BinOp} {t : TypeId} {x y : Operand} {u v z u' v' : Value} {ι : Inj} (h : cnilq P op t u v = some z) (hu : tr ι u = some u') (hv : tr ι v = some v') (w : World) :
    (do eqGuard op t x y u' v'; binOp op t u' v' : Sem Value).run P w = .ok z w ∧ plainV z = true := by
  unfold cnilq at h
  split at h
  · rename_i e a l k ht
    simp only [tr, and_self, if_true, Option.some.injEq] at hv
    subst hv
    have hu' : ∃ b l k, u' = .slice (some b) l k := trS_isS hu
    obtain ⟨b, l', k', rfl⟩ := hu'
    split at h
    · cases h; exact ⟨by simp [eqGuard, binOp, Sem.run_bind, equal_slice ht], rfl⟩
    · cases h; exact ⟨by simp [eqGuard, binOp, Sem.run_bind, equal_slice ht], rfl⟩
    · cases h
  · rename_i e a ht
    simp only [tr, Option.some.injEq] at hv
    subst hv
    have hu' : ∃ b, u' = .pointer (some b) := by
      simp only [tr] at hu
      cases hq : trA ι a with
      | none => simp [hq] at hu
      | some q => rw [hq] at hu; exact ⟨q, by simpa using hu.symm⟩
    obtain ⟨b, rfl⟩ := hu'
    split at h
    · cases h; exact ⟨by simp [eqGuard, binOp, Sem.run_bind, equal_pointer ht], rfl⟩
    · cases h; exact ⟨by simp [eqGuard, binOp, Sem.run_bind, equal_pointer ht], rfl⟩
    · cases h
  · rename_i fn f c ht
    simp only [tr, Option.some.injEq] at hv
    subst hv
    have hu' : ∃ fn c d, u' = .func fn c d := by
      simp only [tr] at hu
      split at hu
      · cases hu; exact ⟨_, _, _, rfl⟩
      · cases hu
    obtain ⟨fn', c', d', rfl⟩ := hu'
    split at h
    · cases h; exact ⟨by simp [eqGuard, binOp, Sem.run_bind, equal_func ht], rfl⟩
    · cases h; exact ⟨by simp [eqGuard, binOp, Sem.run_bind, equal_func ht], rfl⟩
    · cases h
  · cases h
theorem plain_tr {ι : Inj} {v v' : Value} (h : plainV v = true) (e : tr ι v = some v') : v' = v := by rw [tr_plain ι v h] at e; cases e; rfl
theorem op_bin {op : BinOp} {t ty : TypeId} {x y : Operand} {v : Value} (ho : o.op = .binOp op t x y ty) (hx : opdOk x = true) (hy : opdOk y = true) (h : cbin P op t x y (a.ev x) (a.ev y) = some v) : OpVal P r o a m v m :=
  opVal_of_pure (by simp [ho]) fun ι w aw hr ha => by
    unfold cbin at h
    split at h
    · rename_i hp
      simp only [Bool.and_eq_true] at hp
      obtain ⟨h1, h2⟩ := chk_some h
      refine ⟨v, ?_, tr_plain ι v h2⟩
      have e1 := plain_tr hp.1 (ha.ev hx)
      have e2 := plain_tr hp.2 (ha.ev hy)
      have := pureRun_run h1 w
      simp only [execOp, ho, e1, e2]
      simp only [Sem.run_bind] at this ⊢
      rw [this]; rfl
    · obtain ⟨h1, h2⟩ := cnilq_run (x := x) (y := y) h (ha.ev hx) (ha.ev hy) w
      refine ⟨v, ?_, tr_plain ι v h2⟩
      simp only [execOp, ho]
      simp only [Sem.run_bind] at h1 ⊢
      rw [h1]; rfl
def cun (P : Program) (op : UnOp) (u : Value) : Option Value := if plainV u then chk (pureRun P (Op.unary op u)) else none
theorem op_un {op : UnOp} {t : TypeId} {x : Operand} {v : Value} (ho : o.op = .unOp op t x) (hx : opdOk x = true) (h : cun P op (a.ev x) = some v) : OpVal P r o a m v m :=
  opVal_of_pure (by simp [ho]) fun ι w aw hr ha => by
    unfold cun at h
    split at h
    · rename_i hp
      obtain ⟨h1, h2⟩ := chk_some h
      have e1 := plain_tr hp (ha.ev hx)
      exact ⟨v, by simp [execOp, ho, e1, pureRun_run h1 w], tr_plain ι v h2⟩
    · cases h
def cconv (P : Program) (s d : TypeId) (u : Value) : Option Value := if plainV u then chk (pureRun P (convert s d u)) else none
theorem op_conv {s d : TypeId} {x : Operand} {v : Value} (ho : o.op = .convert s d x) (hx : opdOk x = true) (h : cconv P s d (a.ev x) = some v) : OpVal P r o a m v m :=
  opVal_of_pure (by simp [ho]) fun ι w aw hr ha => by
    unfold cconv at h
    split at h
    · rename_i hp
      obtain ⟨h1, h2⟩ := chk_some h
      have e1 := plain_tr hp (ha.ev hx)
      exact ⟨v, by simp [execOp, ho, e1, pureRun_run h1 w], tr_plain ι v h2⟩
    · cases h

def cmkI (P : Program) (t : TypeId) (x : Value) : Option Value := match P.underlying t with | some (.interface _) => none | none => none | _ => some (.iface t x)
theorem op_mkI {t : TypeId} {x : Operand} {v : Value} (ho : o.op = .makeInterface t x) (hx : opdOk x = true) (h : cmkI P t (a.ev x) = some v) : OpVal P r o a m v m :=
  opVal_of_pure (by simp [ho]) fun ι w aw hr ha => by
    unfold cmkI at h
    have := ha.ev hx
    cases hu : P.underlying t with
    | none => simp [hu] at h
    | some d =>
      cases d <;> simp [hu] at h <;> subst h <;>
        exact ⟨.iface t (aw.eval x), by simp [execOp, ho, Instr.makeInterface, underlying, hu], by simp [tr, this]⟩

theorem trL_map {ι : Inj} {a : CA} {aw : Act} (ha : RelA ι a aw) : ∀ (l : List Operand), l.all opdOk = true → trL ι (l.map a.ev) = some (l.map aw.eval)
  | [], _ => by simp [trL]
  | x :: l, h => by
    simp only [List.all_cons, Bool.and_eq_true] at h
    simp [trL, ha.ev h.1, trL_map ha l h.2]
def fnOk : Fn → Bool
  | .yield _ => false
  | _ => true
theorem op_mkF {fn : Fn} {f c : Array Operand} (ho : o.op = .makeFunc fn f c) (hn : fnOk fn = true) (hf : f.toList.all opdOk = true) (hc : c.toList.all opdOk = true) :
    OpVal P r o a m (.func fn ⟨f.toList.map a.ev⟩ ⟨c.toList.map a.ev⟩) m :=
  opVal_of_pure (by simp [ho]) fun ι w aw hr ha => by
    refine ⟨.func fn (f.map aw.eval) (c.map aw.eval), by simp [execOp, ho, Instr.makeFunc], ?_⟩
    have h1 := trL_map ha f.toList hf
    have h2 := trL_map ha c.toList hc
    have h3 : trFn ι fn = some fn := by cases fn <;> simp_all [trFn, fnOk]
    simp only [tr, h1, h2, h3]
    congr 1
    congr 1
    · exact Array.ext' (by simp)
    · exact Array.ext' (by simp)

theorem trL_length {ι : Inj} : ∀ {l l' : List Value}, trL ι l = some l' → l'.length = l.length
  | [], l', h => by simp [trL] at h; subst h; rfl
  | v :: l, l', h => by
    simp only [trL] at h
    split at h
    · rename_i v2 l2 _ h2
      cases h
      simp [trL_length h2]
    · cases h
theorem trL_get {ι : Inj} : ∀ {l l' : List Value}, trL ι l = some l' → ∀ (i : Nat) (v : Value), l[i]? = some v → ∃ v', l'[i]? = some v' ∧ tr ι v = some v'
  | [], l', h, i, v, hv => by simp at hv
  | u :: l, l', h, i, v, hv => by
    simp only [trL] at h
    split at h
    · rename_i v2 l2 h1 h2
      cases h
      cases i with
      | zero => simp at hv; subst hv; exact ⟨v2, by simp, h1⟩
      | succ i => simp at hv; simpa using trL_get h2 i v hv
    · cases h

def cext (x : Value) (i : Nat) : Option Value := match x with | .tuple ⟨l⟩ => l[i]? | _ => none
theorem op_ext {x : Operand} {i : Nat} {v : Value} (ho : o.op = .extract x i) (hx : opdOk x = true) (h : cext (a.ev x) i = some v) : OpVal P r o a m v m :=
  opVal_of_pure (by simp [ho]) fun ι w aw hr ha => by
    unfold cext at h
    have h0 := ha.ev hx
    split at h
    · rename_i l hl
      rw [hl] at h0
      simp only [tr] at h0
      cases h1 : trL ι l with
      | none => simp [h1] at h0
      | some l' =>
        simp [h1] at h0
        obtain ⟨v', hv', ht⟩ := trL_get h1 i v h
        refine ⟨v', ?_, ht⟩
        have : (⟨l'⟩ : Array Value)[i]? = some v' := by simpa using hv'
        simp [execOp, ho, ← h0, Instr.extract, this]
    · cases h

def cnilc (x : Value) : Option Value := match x with
  | .pointer (some a) => some (.pointer (some a))
  | .iface t v => some (.iface t v)
  | .func (.func f) c d => some (.func (.func f) c d)
  | _ => none
theorem op_nilc {x : Operand} {v : Value} (ho : o.op = .nilCheck x) (hx : opdOk x = true) (h : cnilc (a.ev x) = some v) : OpVal P r o a m v m :=
  opVal_of_pure (by simp [ho]) fun ι w aw hr ha => by
    unfold cnilc at h
    have h0 := ha.ev hx
    split at h
    · rename_i p hp
      cases h
      rw [hp] at h0
      refine ⟨aw.eval x, ?_, h0⟩
      simp only [tr] at h0
      cases h1 : trA ι p with
      | none => simp [h1] at h0
      | some q => simp [h1] at h0; simp [execOp, ho, ← h0]
    · rename_i t u hp
      cases h
      rw [hp] at h0
      refine ⟨aw.eval x, ?_, h0⟩
      simp only [tr] at h0
      cases h1 : tr ι u with
      | none => simp [h1] at h0
      | some q => simp [h1] at h0; simp [execOp, ho, ← h0]
    · rename_i f c d hp
      cases h
      rw [hp] at h0
      refine ⟨aw.eval x, ?_, h0⟩
      obtain ⟨c⟩ := c
      obtain ⟨d⟩ := d
      simp only [tr, trFn] at h0
      cases h1 : trL ι c with
      | none => simp [h1] at h0
      | some q =>
        cases h2 : trL ι d with
        | none => simp [h1, h2] at h0
        | some q2 => simp [h1, h2] at h0; simp [execOp, ho, ← h0]
    · cases h
end
end Go.Proofs.Ytjkfleibnojjaaa
end

section
namespace Go.Proofs.Ytjkfleibnojjaaa
open Go

theorem cell_of_heap {w w' : World} {b : Nat} (h : w'.heap[b]? = w.heap[b]?) (o : Nat) : w'.cell? ⟨b, o, none⟩ = w.cell? ⟨b, o, none⟩ := by
  simp only [World.cell?, h]

theorem LRel.mono {ι ι' : Inj} (hle : ι.le ι') {l : CL} {l' : Loop} (h : LRel ι l l') : LRel ι' l l' :=
  ⟨h.state, h.pending, h.size, fun t => tr_mono hle _ _ (h.tmps t), h.params, h.assign, h.body, let ⟨p, h1, h2⟩ := h.defers; ⟨p, hle _ _ h1, h2⟩⟩
theorem MRel.mono {ι ι' : Inj} (hle : ι.le ι') {l : List (Value × Value)} {l' : List MapEntry} (h : MRel ι l l') : MRel ι' l l' := by
  induction h with
  | nil => exact .nil
  | cons hk hv _ ih => exact .cons hk (tr_mono hle _ _ hv) ih

theorem BRel.mono {ι ι' : Inj} {p : Pl} {w w' : World} {x : CB} (hle : ι.le ι') (hh : w'.heap[p.blk]? = w.heap[p.blk]?) (h : BRel ι p w x) : BRel ι' p w' x := by
  cases x with
  | cells c esz own =>
    obtain ⟨h1, h2, h3, h4⟩ := h
    refine ⟨h1, h2, fun i v hv => ?_, fun ho => ?_⟩
    · obtain ⟨v', ht, hc⟩ := h3 i v hv
      exact ⟨v', tr_mono hle _ _ ht, by rw [cell_of_heap hh]; exact hc⟩
    · obtain ⟨h5, arr, e, h6, h7⟩ := h4 ho
      exact ⟨h5, arr, e, by rw [hh]; exact h6, h7⟩
  | map es =>
    obtain ⟨en, clock, h1, h2⟩ := h
    exact ⟨en, clock, by rw [hh]; exact h1, h2.mono hle⟩
  | loop l =>
    obtain ⟨l', h1, h2⟩ := h
    exact ⟨l', by rw [hh]; exact h1, h2.mono hle⟩
  | dfr => exact hh.trans h
  | siter s pos => exact ⟨h.1, hh.trans h.2⟩

def Inj.ext (ι : Inj) (b : Nat) (p : Pl) : Inj := fun x => if x = b then some p else ι x
theorem Inj.le_ext {ι : Inj} {b : Nat} {p : Pl} (h : ι b = none) : ι.le (ι.ext b p) := by
  intro x q hq
  unfold Inj.ext
  split
  · rename_i e; subst e; rw [h] at hq; cases hq
  · exact hq
theorem Inj.ext_same (ι : Inj) (b : Nat) (p : Pl) : ι.ext b p b = some p := by simp [Inj.ext]

/-- A new block. -/
theorem Rel.newBlock {ι : Inj} {m : CM} {w : World} (hr : Rel ι m w) {x : CB} {p : Pl} {ob : Obj} (hp : p.blk = w.heap.size)
    (hx : BRel (ι.ext m.next p) p (w.alloc ob) x) : Rel (ι.ext m.next p) (m.alloc x) (w.alloc ob) ∧ Fr ι m w (ι.ext m.next p) (m.alloc x) (w.alloc ob) := by
  have hn : ι m.next = none := hr.fresh _ (Nat.le_refl _)
  have hle := Inj.le_ext (p := p) hn
  have hold : ∀ B, B < w.heap.size → (w.alloc ob).heap[B]? = w.heap[B]? := fun B hB => by
    show (w.heap.push ob)[B]? = _
    rw [Array.getElem?_push, if_neg (by omega)]
  constructor
  · refine ⟨fun b hb => ?_, fun b q hq => ?_, fun b y hy => ?_, fun b b' y y' q q' hy hy' hne ho hl hq hq' => ?_⟩
    · simp only [CM.next_alloc] at hb
      simp only [Inj.ext]; rw [if_neg (by omega)]; exact hr.fresh b (by omega)
    · simp only [Inj.ext] at hq
      split at hq
      · cases hq; simp [hp]
      · have := hr.low _ _ hq; simp; omega
    · rw [CM.get_alloc] at hy
      split at hy
      · rename_i e; subst e; cases hy
        exact ⟨p, Inj.ext_same .., hx⟩
      · obtain ⟨q, hq, hb⟩ := hr.blk _ _ hy
        exact ⟨q, hle _ _ hq, hb.mono hle (hold _ (hr.low _ _ hq))⟩
    · rw [CM.get_alloc] at hy hy'
      simp only [Inj.ext] at hq hq'
      by_cases e : b = m.next
      · have e' : b' ≠ m.next := fun h => hne (e.trans h.symm)
        rw [if_pos e] at hq; rw [if_neg e'] at hq'
        cases hq
        have := hr.low _ _ hq'; omega
      · by_cases e' : b' = m.next
        · rw [if_neg e] at hq; rw [if_pos e'] at hq'
          cases hq'
          have := hr.low _ _ hq; omega
        · rw [if_neg e] at hy hq; rw [if_neg e'] at hy' hq'
          exact hr.apart _ _ _ _ _ _ hy hy' hne ho hl hq hq'
  · refine ⟨rfl, rfl, rfl, by simp, fun B hB _ => hold B hB, fun b y q hy hq => ?_, fun b y y' hy hy' => ?_, by simp, fun b hb hg => ?_, fun b hb => by simp only [Inj.ext]; rw [if_neg (by omega)]⟩
    · rw [CM.get_alloc] at hy
      simp only [Inj.ext] at hq
      by_cases e : b = m.next
      · rw [if_pos e] at hq; cases hq; exact .inl (by omega)
      · rw [if_neg e] at hy hq; exact .inr ⟨b, y, q, hy, hq, rfl, .inl rfl⟩
    · rw [CM.get_alloc, if_neg (by have := hr.lt hy; omega), hy] at hy'; cases hy'; rfl
    · rw [CM.get_alloc, if_neg (by omega)]; exact hg

/-- One of the call's own blocks holds something else. -/
theorem Rel.setBlock {ι : Inj} {m : CM} {w w' : World} (hr : Rel ι m w) {b : Nat} {x x' : CB} (hb : m.get b = some x) (ho : x.own = true) (ho' : x'.own = true) {p : Pl} (hp : ι b = some p)
    (hx : BRel ι p w' x') (hother : ∀ B, B ≠ p.blk → w'.heap[B]? = w.heap[B]?) (hsz : w'.heap.size = w.heap.size) (hos : w'.os = w.os) (htp : w'.tape = w.tape) (hout : w'.output = w.output) :
    Rel ι (m.put b x') w' ∧ Fr ι m w ι (m.put b x') w' := by
  have hlive : ∀ y : CB, y.own = true → y.live = true := by
    intro y hy; cases y <;> simp_all [CB.own, CB.live]
  constructor
  · refine ⟨fun c hc => hr.fresh c (by simpa using hc), fun c q hq => by rw [hsz]; exact hr.low _ _ hq, fun c y hy => ?_, fun c c' y y' q q' hy hy' hne hoy hl hq hq' => ?_⟩
    · rw [CM.get_put] at hy
      split at hy
      · rename_i e; subst e; cases hy
        exact ⟨p, hp, hx⟩
      · rename_i e
        obtain ⟨q, hq, hbq⟩ := hr.blk _ _ hy
        refine ⟨q, hq, ?_⟩
        by_cases hl : y.live = true
        · exact hbq.mono (.refl ι) (hother _ (fun h => hr.apart _ _ _ _ _ _ hb hy (fun h => e h.symm) ho hl hp hq h.symm))
        · cases y with
          | cells cc esz own =>
            simp [CB.live] at hl
            obtain ⟨rfl, rfl⟩ := hl
            obtain ⟨h1, h2, h3, h4⟩ := hbq
            exact ⟨h1, h2, fun i v hv => by simp at hv, fun h => by cases h⟩
          | map es => simp [CB.live] at hl
          | loop l => simp [CB.live] at hl
          | dfr => simp [CB.live] at hl
          | siter s pos => simp [CB.live] at hl
    · rw [CM.get_put] at hy hy'
      by_cases e : c = b
      · subst e
        have e' : c' ≠ c := fun h => hne h.symm
        rw [if_neg e'] at hy'
        exact hr.apart _ _ _ _ _ _ hb hy' hne ho hl hq hq'
      · rw [if_neg e] at hy
        by_cases e' : c' = b
        · subst e'
          exact hr.apart _ _ _ _ _ _ hy hb hne hoy (hlive x ho) hq hq'
        · rw [if_neg e'] at hy'
          exact hr.apart _ _ _ _ _ _ hy hy' hne hoy hl hq hq'
  · refine ⟨hos, htp, hout, by omega, fun B hB hno => hother B (fun e => hno _ _ _ hb ho hp e.symm), fun c y q hy hq => ?_, fun c y y' hy hy' => ?_, by simp, fun c hc hg => ?_, fun _ _ => rfl⟩
    · rw [CM.get_put] at hy
      by_cases e : c = b
      · subst e; exact .inr ⟨c, x, q, hb, hq, rfl, .inl rfl⟩
      · rw [if_neg e] at hy; exact .inr ⟨c, y, q, hy, hq, rfl, .inl rfl⟩
    · rw [CM.get_put] at hy'
      by_cases e : c = b
      · subst e; rw [if_pos rfl] at hy'; cases hy'; rw [hb] at hy; cases hy; rw [ho, ho']
      · rw [if_neg e] at hy'; rw [hy] at hy'; cases hy'; rfl
    · rw [CM.get_put]
      split
      · rename_i e; subst e; rw [hb] at hg; cases hg
      · exact hg

/-- A block's cells move to a new number: at the place where they lie (an append in place). -/
theorem Rel.moveBlock {ι : Inj} {m : CM} {w w' : World} (hr : Rel ι m w) {b : Nat} {x x' : CB} (hb : m.get b = some x) (ho : x.own = true) (ho' : x'.own = true) {p : Pl} (hp : ι b = some p)
    (hx : BRel (ι.ext m.next p) p w' x') (hother : ∀ B, B ≠ p.blk → w'.heap[B]? = w.heap[B]?) (hsz : w'.heap.size = w.heap.size) (hos : w'.os = w.os) (htp : w'.tape = w.tape) (hout : w'.output = w.output) :
    Rel (ι.ext m.next p) ((m.set b none).alloc x') w' ∧ Fr ι m w (ι.ext m.next p) ((m.set b none).alloc x') w' := by
  have hn : ι m.next = none := hr.fresh _ (Nat.le_refl _)
  have hle := Inj.le_ext (p := p) hn
  have hlt := hr.lt hb
  have hlive : ∀ y : CB, y.own = true → y.live = true := by
    intro y hy; cases y <;> simp_all [CB.own, CB.live]
  have hget : ∀ c y, ((m.set b none).alloc x').get c = some y → (c = m.next ∧ y = x') ∨ (c ≠ m.next ∧ c ≠ b ∧ m.get c = some y) := by
    intro c y hy
    rw [CM.get_alloc, CM.get_set] at hy
    by_cases e1 : c = m.next
    · rw [if_pos (by exact e1)] at hy; cases hy; exact .inl ⟨e1, rfl⟩
    · rw [if_neg (by exact e1)] at hy
      by_cases e2 : c = b
      · rw [if_pos e2] at hy; cases hy
      · rw [if_neg e2] at hy; exact .inr ⟨e1, e2, hy⟩
  have hι : ∀ c, c ≠ m.next → ι.ext m.next p c = ι c := fun c hc => by simp [Inj.ext, hc]
  constructor
  · refine ⟨fun c hc => ?_, fun c q hq => ?_, fun c y hy => ?_, fun c c' y y' q q' hy hy' hne hoy hl hq hq' => ?_⟩
    · simp only [CM.next_alloc, CM.next_set] at hc
      rw [hι c (by omega)]; exact hr.fresh c (by omega)
    · rw [hsz]
      simp only [Inj.ext] at hq
      split at hq
      · cases hq; exact hr.low _ _ hp
      · exact hr.low _ _ hq
    · rcases hget c y hy with ⟨rfl, rfl⟩ | ⟨h1, h2, h3⟩
      · exact ⟨p, Inj.ext_same .., hx⟩
      · obtain ⟨q, hq, hbq⟩ := hr.blk _ _ h3
        refine ⟨q, by rw [hι c h1]; exact hq, ?_⟩
        by_cases hl : y.live = true
        · exact hbq.mono hle (hother _ (fun h => hr.apart _ _ _ _ _ _ hb h3 (fun h => h2 h.symm) ho hl hp hq h.symm))
        · cases y with
          | cells cc esz own =>
            simp [CB.live] at hl
            obtain ⟨rfl, rfl⟩ := hl
            obtain ⟨h1, h2, h3, h4⟩ := hbq
            exact ⟨h1, h2, fun i v hv => by simp at hv, fun h => by cases h⟩
          | map es => simp [CB.live] at hl
          | loop l => simp [CB.live] at hl
          | dfr => simp [CB.live] at hl
          | siter s pos => simp [CB.live] at hl
    · rcases hget c y hy with ⟨rfl, rfl⟩ | ⟨h1, h2, h3⟩
      · rcases hget c' y' hy' with ⟨rfl, rfl⟩ | ⟨h1', h2', h3'⟩
        · exact absurd rfl hne
        · rw [Inj.ext_same] at hq; cases hq
          rw [hι c' h1'] at hq'
          exact hr.apart _ _ _ _ _ _ hb h3' (fun h => h2' h.symm) ho hl hp hq'
      · rw [hι c h1] at hq
        rcases hget c' y' hy' with ⟨rfl, rfl⟩ | ⟨h1', h2', h3'⟩
        · rw [Inj.ext_same] at hq'; cases hq'
          exact hr.apart _ _ _ _ _ _ h3 hb h2 hoy (hlive x ho) hq hp
        · rw [hι c' h1'] at hq'
          exact hr.apart _ _ _ _ _ _ h3 h3' hne hoy hl hq hq'
  · refine ⟨hos, htp, hout, by omega, fun B hB hno => hother B (fun e => hno _ _ _ hb ho hp e.symm), fun c y q hy hq => ?_, fun c y y' hy hy' => ?_, by simp, fun c hc hg => ?_, fun c hc => hι c (by omega)⟩
    · rcases hget c y hy with ⟨rfl, rfl⟩ | ⟨h1, h2, h3⟩
      · rw [Inj.ext_same] at hq; cases hq
        exact .inr ⟨b, x, p, hb, hp, rfl, .inr ho⟩
      · rw [hι c h1] at hq; exact .inr ⟨c, y, q, h3, hq, rfl, .inl rfl⟩
    · rcases hget c y' hy' with ⟨rfl, rfl⟩ | ⟨h1, h2, h3⟩
      · have := hr.lt hy; omega
      · rw [hy] at h3; cases h3; rfl
    · rw [CM.get_alloc, CM.get_set, if_neg (by show c ≠ m.next; omega)]
      by_cases e2 : c = b
      · rw [if_pos e2]
      · rw [if_neg e2]; exact hg
end Go.Proofs.Ytjkfleibnojjaaa
end

section
namespace Go.Proofs.Ytjkfleibnojjaaa
open Go

def szOf (P : Program) (t : TypeId) : Option Nat := (P.info? t).map (·.size)
def aggB (P : Program) (t : TypeId) : Option Bool := match P.underlying t with | some (.struct _) | some (.array _ _) => some true | some _ => some false | none => none
theorem run_sizeOf {P : Program} {t : TypeId} {n : Nat} (h : szOf P t = some n) (w : World) : (sizeOf t).run P w = .ok n w := by
  unfold szOf at h
  cases hi : P.info? t with
  | none => simp [hi] at h
  | some i => simp [hi] at h; simp [sizeOf, typeInfo, hi, h]
theorem run_isAgg {P : Program} {t : TypeId} {b : Bool} (h : aggB P t = some b) (w : World) : (isAgg t).run P w = .ok b w := by
  unfold aggB at h
  cases hu : P.underlying t with
  | none => simp [hu] at h
  | some d => cases d <;> simp [hu] at h <;> subst h <;> simp [isAgg, underlying, hu]

def toL (v : Value) : List Value := match v with | .agg ⟨l⟩ => l | v => [v]
theorem toL_cells (v : Value) : v.cells.toList = toL v := by cases v <;> simp [Value.cells, toL]
theorem trL_one {ι : Inj} {v v' : Value} (h : tr ι v = some v') : trL ι [v] = some [v'] := by simp [trL, h]
theorem trS_slice {ι : Inj} {a : Addr} {l k : Nat} {v : Value} (h : trS ι a l k = some v) : ∃ x c, v = .slice (some x) l c ∧ l ≤ c ∧ c = (match ι a.block with | some p => (if k = 0 then (p.lim - a.off) / p.esz else k - 1) - a.spot.getD 0 | none => 0) := by
  unfold trS at h
  cases hi : ι a.block with
  | none => simp [hi] at h
  | some p =>
    simp only [hi] at h ⊢
    cases hs : a.spot with
    | none =>
      simp only [hs] at h
      generalize (if k = 0 then (p.lim - a.off) / p.esz else k - 1) = cap at h ⊢
      by_cases hc : l ≤ cap
      · rw [if_pos hc] at h; cases h; exact ⟨_, _, rfl, hc, by simp⟩
      · rw [if_neg hc] at h; cases h
    | some s =>
      simp only [hs] at h
      generalize (if k = 0 then (p.lim - a.off) / p.esz else k - 1) = cap at h ⊢
      by_cases hc : l = 0 ∧ s ≤ cap
      · rw [if_pos hc] at h; cases h; exact ⟨_, _, by rw [hc.1], by omega, by simp⟩
      · rw [if_neg hc] at h; cases h
theorem trL_toL {ι : Inj} {v v' : Value} (h : tr ι v = some v') : trL ι (toL v) = some (toL v') := by
  cases v with
  | agg a =>
    obtain ⟨l⟩ := a
    simp only [tr] at h
    cases h1 : trL ι l with
    | none => simp [h1] at h
    | some l' => simp [h1] at h; subst h; simp [toL, h1]
  | bool b => simp [tr] at h; subst h; simp [toL, trL, tr]
  | int k n => simp [tr] at h; subst h; simp [toL, trL, tr]
  | float _ _ => simp [tr] at h
  | complex _ _ _ => simp [tr] at h
  | string s => simp [tr] at h; subst h; simp [toL, trL, tr]
  | pointer p =>
    cases p with
    | none => simp [tr] at h; subst h; simp [toL, trL, tr]
    | some p =>
      have h0 := trL_one h
      simp only [tr] at h
      cases h1 : trA ι p with
      | none => simp [h1] at h
      | some q => simp [h1] at h; subst h; exact h0
  | slice p l k =>
    have h0 := trL_one h
    cases p with
    | none =>
      simp only [tr] at h
      by_cases hc : l = 0 ∧ k = 0
      · rw [if_pos hc] at h; cases h; exact h0
      · rw [if_neg hc] at h; cases h
    | some p =>
      simp only [tr] at h
      obtain ⟨x, c, rfl, _⟩ := trS_slice h
      exact h0
  | map p =>
    have h0 := trL_one h
    cases p with
    | none => simp [tr] at h; subst h; exact h0
    | some p =>
      simp only [tr] at h
      cases h1 : ι p with
      | none => simp [h1] at h
      | some q => simp [h1] at h; subst h; exact h0
  | chan _ => simp [tr] at h
  | func fn f c =>
    have h0 := trL_one h
    obtain ⟨f⟩ := f
    obtain ⟨c⟩ := c
    simp only [tr] at h
    split at h <;> cases h; exact h0
  | nilFunc => simp [tr] at h; subst h; simp [toL, trL, tr]
  | iface t v =>
    have h0 := trL_one h
    simp only [tr] at h
    cases h1 : tr ι v with
    | none => simp [h1] at h
    | some q => simp [h1] at h; subst h; exact h0
  | nilIface => simp [tr] at h; subst h; simp [toL, trL, tr]
  | tuple a =>
    have h0 := trL_one h
    obtain ⟨l⟩ := a
    simp only [tr] at h
    cases h1 : trL ι l with
    | none => simp [h1] at h
    | some l' => simp [h1] at h; subst h; exact h0

theorem trL_of_get {ι : Inj} : ∀ (l l' : List Value), l'.length = l.length → (∀ (i : Nat) (v : Value), l[i]? = some v → ∃ v', l'[i]? = some v' ∧ tr ι v = some v') → trL ι l = some l'
  | [], l', h, _ => by cases l' with | nil => simp [trL] | cons _ _ => simp at h
  | v :: l, l', h, k => by
    cases l' with
    | nil => simp at h
    | cons v' l' =>
      obtain ⟨u, hu, hv⟩ := k 0 v (by simp)
      simp at hu; subst hu
      have := trL_of_get l l' (by simpa using h) (fun i x hx => by simpa using k (i + 1) x (by simpa using hx))
      simp [trL, hv, this]

/-- Reading cells. -/
theorem run_loadCellsFrom {P : Program} {w : World} (b o : Nat) : ∀ (n : Nat) (i : Nat) (acc : Array Value) (vs : List Value), vs.length = n →
    (∀ j v, vs[j]? = some v → w.cell? ⟨b, o + i + j, none⟩ = some v) → (loadCellsFrom ⟨b, o, none⟩ i n acc).run P w = .ok (acc ++ vs.toArray) w
  | 0, i, acc, vs, hl, _ => by
    have : vs = [] := List.length_eq_zero_iff.1 hl
    subst this; simp [loadCellsFrom]
  | n + 1, i, acc, vs, hl, h => by
    cases vs with
    | nil => simp at hl
    | cons v vs =>
      have h0 : w.cell? ((⟨b, o, none⟩ : Addr).add i) = some v := by
        have := h 0 v (by simp)
        unfold Addr.add
        split
        · rename_i e; subst e; simpa using this
        · simpa using this
      have ih := run_loadCellsFrom (P := P) (w := w) b o n (i + 1) (acc.push v) vs (by simpa using hl) (fun j u hu => by
        have := h (j + 1) u (by simpa using hu)
        rw [show o + (i + 1) + j = o + i + (j + 1) from by omega]; exact this)
      simp only [loadCellsFrom, Sem.run_bind, load, Sem.run, h0, Result.andThen_ok]
      rw [ih]; congr 1
      exact Array.ext' (by simp)

def cload (P : Program) (t : TypeId) (x : Value) (m : CM) : Option Value :=
  match x with
  | .pointer (some ⟨b, o, none⟩) =>
    match m.get b with
    | some (.cells c _ _) =>
      match aggB P t with
      | some true =>
        match szOf P t with
        | some n => let l := (c.drop o).take n; if l.length = n then some (.agg ⟨l⟩) else none
        | none => none
      | some false => c[o]?
      | none => none
    | _ => none
  | _ => none

theorem tr_pointer {ι : Inj} {b o : Nat} {v : Value} (h : tr ι (.pointer (some ⟨b, o, none⟩)) = some v) : ∃ p, ι b = some p ∧ v = .pointer (some ⟨p.blk, p.off + o, none⟩) := by
  simp only [tr, trA] at h
  cases hi : ι b with
  | none => simp [hi] at h
  | some p => simp [hi] at h; exact ⟨p, rfl, h.symm⟩

theorem run_loadVar {P : Program} {ι : Inj} {m : CM} {w : World} (hr : Rel ι m w) {t : TypeId} {b o : Nat} {p : Pl} (hp : ι b = some p) {v : Value}
    (h : cload P t (.pointer (some ⟨b, o, none⟩)) m = some v) : ∃ v', (loadVar t ⟨p.blk, p.off + o, none⟩).run P w = .ok v' w ∧ tr ι v = some v' := by
  unfold cload at h
  simp only at h
  cases hb : m.get b with
  | none => simp [hb] at h
  | some x =>
    cases x with
    | cells c esz own =>
      obtain ⟨q, hq, h1, h2, h3, h4⟩ := hr.blk _ _ hb
      rw [hp] at hq; cases hq
      simp only [hb] at h
      cases ha : aggB P t with
      | none => simp [ha] at h
      | some g =>
        simp only [ha] at h
        cases g with
        | true =>
          cases hs : szOf P t with
          | none => simp [hs] at h
          | some n =>
            simp only [hs] at h
            split at h
            · rename_i hl
              cases h
              -- the world's cells
              have hex : ∀ i, i < n → ∃ v', w.cell? ⟨p.blk, p.off + o + i, none⟩ = some v' ∧ ∃ u, ((c.drop o).take n)[i]? = some u ∧ tr ι u = some v' := by
                intro i hi
                have hlt : i < ((c.drop o).take n).length := by omega
                have e : ((c.drop o).take n)[i]? = some ((c.drop o).take n)[i] := List.getElem?_eq_getElem hlt
                have e2 : c[o + i]? = some ((c.drop o).take n)[i] := by
                  rw [← e, List.getElem?_take, if_pos hi, List.getElem?_drop]
                obtain ⟨v', ht, hc⟩ := h3 _ _ e2
                exact ⟨v', by rw [Nat.add_assoc]; exact hc, _, e, ht⟩
              obtain ⟨vs, hvl, hvs⟩ : ∃ vs : List Value, vs.length = n ∧ ∀ i v, vs[i]? = some v → w.cell? ⟨p.blk, p.off + o + i, none⟩ = some v := by
                refine ⟨(List.range n).map fun i => (w.cell? ⟨p.blk, p.off + o + i, none⟩).getD undef, by simp, fun i v hv => ?_⟩
                simp only [List.getElem?_map] at hv
                have hi : i < n := by
                  apply Nat.lt_of_not_le; intro hc
                  rw [List.getElem?_eq_none (by simpa using hc)] at hv; simp at hv
                rw [List.getElem?_range hi] at hv
                simp at hv
                obtain ⟨v', hc, _⟩ := hex i hi
                rw [hc] at hv ⊢; simp at hv; rw [hv]
              refine ⟨.agg ⟨vs⟩, ?_, ?_⟩
              · have hrun := run_loadCellsFrom (P := P) (w := w) p.blk (p.off + o) n 0 #[] vs hvl (fun j u hu => by simpa using hvs j u hu)
                have e : (#[] ++ vs.toArray : Array Value) = ⟨vs⟩ := by simp
                rw [e] at hrun
                simp [loadVar, run_isAgg ha w, run_sizeOf hs w, loadCells, hrun]
              · have : trL ι ((c.drop o).take n) = some vs := trL_of_get _ _ (by omega) (fun i u hu => by
                  have hi : i < n := by
                    apply Nat.lt_of_not_le; intro hc
                    rw [List.getElem?_eq_none (by omega)] at hu; cases hu
                  obtain ⟨v', hc, u', hu', ht⟩ := hex i hi
                  rw [hu] at hu'; cases hu'
                  have hlt : i < vs.length := by omega
                  have e := List.getElem?_eq_getElem hlt
                  have := hvs i _ e
                  rw [hc] at this; cases this
                  exact ⟨_, e, ht⟩)
                simp [tr, this]
            · cases h
        | false =>
          obtain ⟨v', ht, hc⟩ := h3 _ _ h
          refine ⟨v', ?_, ht⟩
          simp [loadVar, run_isAgg ha w, load, Sem.run]
          rw [hc]
    | map es => simp [hb] at h
    | loop l => simp [hb] at h
    | dfr => simp [hb] at h
    | siter s pos => simp [hb] at h

section
variable {P : Program} {r : Option Nat} {o : Oper} {a : CA} {m : CM}
theorem op_load {t : TypeId} {x : Operand} {v : Value} (ho : o.op = .load t x) (hx : opdOk x = true) (h : cload P t (a.ev x) m = some v) : OpVal P r o a m v m :=
  opVal_of_pure (by simp [ho]) fun ι w aw hr ha => by
    have h0 := ha.ev hx
    have hsh : ∃ b off, a.ev x = .pointer (some ⟨b, off, none⟩) := by
      unfold cload at h
      split at h
      · rename_i b off hb; exact ⟨b, off, hb⟩
      · cases h
    obtain ⟨b, off, hb⟩ := hsh
    rw [hb] at h0 h
    obtain ⟨p, hp, e⟩ := tr_pointer h0
    obtain ⟨v', hrun, ht⟩ := run_loadVar hr hp h
    exact ⟨v', by simp [execOp, ho, e, Instr.loadAt, Instr.sureAddr, hrun], ht⟩
end
end Go.Proofs.Ytjkfleibnojjaaa
end

section
namespace Go.Proofs.Ytjkfleibnojjaaa
open Go

/-! ### Stores -/
def splice (c : List Value) (o : Nat) (vs : List Value) : List Value := c.take o ++ vs ++ c.drop (o + vs.length)
theorem splice_length {c : List Value} {o : Nat} {vs : List Value} (h : o + vs.length ≤ c.length) : (splice c o vs).length = c.length := by
  simp [splice]; omega
theorem splice_get {c : List Value} {o : Nat} {vs : List Value} (h : o + vs.length ≤ c.length) (i : Nat) :
    (splice c o vs)[i]? = if i < o then c[i]? else if i < o + vs.length then vs[i - o]? else c[i]? := by
  unfold splice
  by_cases h1 : i < o
  · rw [if_pos h1, List.append_assoc, List.getElem?_append_left (by simp; omega), List.getElem?_take, if_pos h1]
  · rw [if_neg h1, List.append_assoc, List.getElem?_append_right (by simp; omega)]
    have e : (c.take o).length = o := by simp; omega
    rw [e]
    by_cases h2 : i < o + vs.length
    · rw [if_pos h2, List.getElem?_append_left (by omega)]
    · rw [if_neg h2, List.getElem?_append_right (by omega), List.getElem?_drop]
      congr 1; omega

def one (v : Value) : Bool := match v with | .agg _ | .tuple _ => false | _ => true

theorem run_store1 {P : Program} {w : World} {b o : Nat} {arr : Array Value} {e : TypeId} {v : Value} (hv : one v = true) (h : w.heap[b]? = some (.cells arr e (0, 0))) (ho : o < arr.size) :
    (store ⟨b, o, none⟩ v).run P w = .ok () (w.setCell ⟨b, o, none⟩ v) := by
  have hc : w.cell? ⟨b, o, none⟩ = some arr[o] := by simp [World.cell?, h, ho]
  have hf : w.frozen? ⟨b, o, none⟩ = false := by simp [World.frozen?, h]
  cases v <;> simp_all [store, Sem.run, one]
theorem setCell_heap_same {w : World} {b o : Nat} {arr : Array Value} {e : TypeId} (v : Value) (h : w.heap[b]? = some (.cells arr e (0, 0))) :
    (w.setCell ⟨b, o, none⟩ v).heap[b]? = some (.cells (arr.setIfInBounds o v) e (0, 0)) := by
  have hlt : b < w.heap.size := (Array.getElem?_eq_some_iff.1 h).1
  simp [World.setCell, Array.getElem?_modify, h]
theorem setCell_heap_other {w : World} {b o B : Nat} (v : Value) (h : B ≠ b) : (w.setCell ⟨b, o, none⟩ v).heap[B]? = w.heap[B]? := by
  simp only [World.setCell, Array.getElem?_modify]
  rw [if_neg (by omega)]

/-- What writing cells does to the world. -/
structure Wrote (w : World) (b o : Nat) (vs : List Value) (w' : World) : Prop where
  block : ∀ arr e, w.heap[b]? = some (.cells arr e (0, 0)) → o + vs.length ≤ arr.size → ∃ arr', w'.heap[b]? = some (.cells arr' e (0, 0)) ∧ arr'.size = arr.size ∧ ∀ i, arr'[i]? = if i < o then arr[i]? else if i < o + vs.length then vs[i - o]? else arr[i]?
  other : ∀ B, B ≠ b → w'.heap[B]? = w.heap[B]?
  size : w'.heap.size = w.heap.size
  os : w'.os = w.os
  tape : w'.tape = w.tape
  output : w'.output = w.output

theorem run_storeCells {P : Program} (b o : Nat) : ∀ (vs : List Value) (i : Nat) (w : World) (arr : Array Value) (e : TypeId), vs.all one = true → w.heap[b]? = some (.cells arr e (0, 0)) → o + i + vs.length ≤ arr.size →
    ∃ w', (storeCells ⟨b, o, none⟩ vs i).run P w = .ok () w' ∧ Wrote w b (o + i) vs w'
  | [], i, w, arr, e, _, h, _ => ⟨w, rfl, ⟨fun arr' e' h' _ => ⟨arr', h', rfl, fun j => by
      by_cases c1 : j < o + i
      · rw [if_pos c1]
      · rw [if_neg c1, if_neg (by simpa using c1)]⟩, fun _ _ => rfl, rfl, rfl, rfl, rfl⟩⟩
  | v :: vs, i, w, arr, e, hv, h, hl => by
    simp only [List.all_cons, Bool.and_eq_true] at hv
    simp only [List.length_cons] at hl
    have ea : (⟨b, o, none⟩ : Addr).add i = ⟨b, o + i, none⟩ := by
      unfold Addr.add; split
      · rename_i e; subst e; simp
      · rfl
    have h1 := run_store1 (P := P) (o := o + i) hv.1 h (by omega)
    have h2 := setCell_heap_same (o := o + i) v h
    obtain ⟨w', hrun, hw⟩ := run_storeCells (P := P) b o vs (i + 1) _ _ e hv.2 h2 (by simp; omega)
    refine ⟨w', by simp only [storeCells, ea, Sem.run_bind, h1, Result.andThen_ok, hrun], ?_⟩
    refine ⟨fun arr0 e0 h0 hl0 => ?_, fun B hB => (hw.other B hB).trans (setCell_heap_other _ hB), by rw [hw.size]; simp, by rw [hw.os]; rfl, by rw [hw.tape]; rfl, by rw [hw.output]; rfl⟩
    rw [h] at h0; cases h0
    obtain ⟨arr', ha, hs, hg⟩ := hw.block _ _ h2 (by simp; omega)
    refine ⟨arr', ha, by rw [hs]; simp, fun j => ?_⟩
    rw [hg j]
    simp only [List.length_cons]
    by_cases c1 : j < o + i
    · rw [if_pos (by omega), if_pos c1, Array.getElem?_setIfInBounds, if_neg (by omega)]
    · rw [if_neg c1]
      by_cases c2 : j = o + i
      · subst c2
        rw [if_pos (by omega), if_pos (by omega), Array.getElem?_setIfInBounds, if_pos rfl, if_pos (by omega)]
        simp
      · rw [if_neg (by omega)]
        by_cases c3 : j < o + i + (vs.length + 1)
        · rw [if_pos (by omega), if_pos (by omega)]
          rw [show j - (o + i) = (j - (o + (i + 1))) + 1 from by omega]
          simp
        · rw [if_neg (by omega), if_neg (by omega), Array.getElem?_setIfInBounds, if_neg (by omega)]

theorem one_tr {ι : Inj} {v v' : Value} (h : tr ι v = some v') (ho : one v = true) : one v' = true := by
  cases v with
  | agg _ => simp [one] at ho
  | tuple _ => simp [one] at ho
  | bool b => simp [tr] at h; subst h; rfl
  | int k n => simp [tr] at h; subst h; rfl
  | float _ _ => simp [tr] at h
  | complex _ _ _ => simp [tr] at h
  | string s => simp [tr] at h; subst h; rfl
  | pointer p =>
    cases p with
    | none => simp [tr] at h; subst h; rfl
    | some p =>
      simp only [tr] at h
      cases h1 : trA ι p with
      | none => simp [h1] at h
      | some q => simp [h1] at h; subst h; rfl
  | slice p l k =>
    cases p with
    | none =>
      simp only [tr] at h
      by_cases hc : l = 0 ∧ k = 0
      · rw [if_pos hc] at h; cases h; rfl
      · rw [if_neg hc] at h; cases h
    | some p =>
      simp only [tr] at h
      obtain ⟨x, c, rfl, _⟩ := trS_slice h
      rfl
  | map p =>
    cases p with
    | none => simp [tr] at h; subst h; rfl
    | some p =>
      simp only [tr] at h
      cases h1 : ι p with
      | none => simp [h1] at h
      | some q => simp [h1] at h; subst h; rfl
  | chan _ => simp [tr] at h
  | func fn f c =>
    obtain ⟨f⟩ := f
    obtain ⟨c⟩ := c
    simp only [tr] at h
    split at h <;> cases h; rfl
  | nilFunc => simp [tr] at h; subst h; rfl
  | iface t v =>
    simp only [tr] at h
    cases h1 : tr ι v with
    | none => simp [h1] at h
    | some q => simp [h1] at h; subst h; rfl
  | nilIface => simp [tr] at h; subst h; rfl
theorem ones_tr {ι : Inj} : ∀ {l l' : List Value}, trL ι l = some l' → l.all one = true → l'.all one = true
  | [], l', h, _ => by simp [trL] at h; subst h; rfl
  | v :: l, l', h, ho => by
    simp only [trL] at h
    simp only [List.all_cons, Bool.and_eq_true] at ho
    split at h
    · rename_i v2 l2 h1 h2
      cases h
      simp [one_tr h1 ho.1, ones_tr h2 ho.2]
    · cases h

def cstoreL (b o : Nat) (vs : List Value) (m : CM) : Option CM :=
  match m.get b with
  | some (.cells c esz true) => if o + vs.length ≤ c.length ∧ vs.all one = true then some (m.put b (.cells (splice c o vs) esz true)) else none
  | _ => none
def cstore (P : Program) (t : TypeId) (x v : Value) (m : CM) : Option CM :=
  match x with
  | .pointer (some ⟨b, o, none⟩) => if szOf P t = some (toL v).length then cstoreL b o (toL v) m else none
  | _ => none

theorem run_cstoreL {P : Program} {ι : Inj} {m m' : CM} {w : World} (hr : Rel ι m w) {b o : Nat} {p : Pl} (hp : ι b = some p) {vs vs' : List Value} (hv : trL ι vs = some vs')
    (h : cstoreL b o vs m = some m') : p.off = 0 ∧ ∃ w', (storeCells ⟨p.blk, o, none⟩ vs' 0).run P w = .ok () w' ∧ Rel ι m' w' ∧ Fr ι m w ι m' w' := by
  unfold cstoreL at h
  split at h
  · rename_i c esz hb
    by_cases hc : o + vs.length ≤ c.length ∧ vs.all one = true
    · rw [if_pos hc] at h; cases h
      obtain ⟨q, hq, h1, h2, h3, h4⟩ := hr.blk _ _ hb
      rw [hp] at hq; cases hq
      obtain ⟨h5, arr, e, h6, h7⟩ := h4 rfl
      have hlen := trL_length hv
      obtain ⟨w', hrun, hw⟩ := run_storeCells (P := P) p.blk o vs' 0 w arr e (ones_tr hv hc.2) h6 (by omega)
      obtain ⟨arr', ha, hs, hg⟩ := hw.block _ _ h6 (by omega)
      refine ⟨h5, w', hrun, ?_⟩
      refine hr.setBlock hb rfl rfl hp ?_ hw.other hw.size hw.os hw.tape hw.output
      refine ⟨h1, by rw [splice_length hc.1]; exact h2, fun i v hi => ?_, fun _ => ⟨h5, arr', e, ha, by rw [hs, h7]⟩⟩
      rw [splice_get hc.1] at hi
      have hcell : ∀ v', arr'[i]? = some v' → w'.cell? ⟨p.blk, p.off + i, none⟩ = some v' := fun v' hv' => by simp [World.cell?, ha, h5, hv']
      have hold : c[i]? = some v → (arr[i]? = some v → True) → ∃ v', tr ι v = some v' ∧ arr[i]? = some v' := fun hcv _ => by
        obtain ⟨v', ht, hcc⟩ := h3 _ _ hcv
        refine ⟨v', ht, ?_⟩
        simpa [World.cell?, h6, h5] using hcc
      by_cases c1 : i < o
      · rw [if_pos c1] at hi
        obtain ⟨v', ht, hcc⟩ := hold hi (fun _ => trivial)
        refine ⟨v', ht, hcell v' ?_⟩
        rw [hg i, if_pos (by omega)]; exact hcc
      · rw [if_neg c1] at hi
        by_cases c2 : i < o + vs.length
        · rw [if_pos c2] at hi
          obtain ⟨v', hv', ht⟩ := trL_get hv _ _ hi
          refine ⟨v', ht, hcell v' ?_⟩
          rw [hg i, if_neg (by omega), if_pos (by omega)]; exact hv'
        · rw [if_neg c2] at hi
          obtain ⟨v', ht, hcc⟩ := hold hi (fun _ => trivial)
          refine ⟨v', ht, hcell v' ?_⟩
          rw [hg i, if_neg (by omega), if_neg (by omega)]; exact hcc
    · rw [if_neg hc] at h; cases h
  · cases h

section
variable {P : Program} {r : Option Nat} {o : Oper} {a : CA} {m : CM}
theorem op_store {t : TypeId} {x y : Operand} {m' : CM} (ho : o.op = .store t x y) (hx : opdOk x = true) (hy : opdOk y = true) (h : cstore P t (a.ev x) (a.ev y) m = some m') : OpVal P r o a m undef m' :=
  opVal_of_run (by simp [ho]) fun ι w aw hr ha => by
    unfold cstore at h
    split at h
    · rename_i b off hb
      by_cases hs : szOf P t = some (toL (a.ev y)).length
      · rw [if_pos hs] at h
        have h0 := ha.ev hx
        rw [hb] at h0
        obtain ⟨p, hp, e⟩ := tr_pointer h0
        have hy' := trL_toL (ha.ev hy)
        obtain ⟨h5, w', hrun, hr', hf⟩ := run_cstoreL (P := P) hr hp hy' h
        refine ⟨ι, w', undef, .inr ⟨?_, rfl⟩, .refl ι, hr', by simp [undef, tr, trL], hf⟩
        have hl : (aw.eval y).cells.size = (toL (a.ev y)).length := by
          rw [← Array.length_toList, toL_cells, trL_length hy']
        have e2 : aw.eval x = .pointer (some ⟨p.blk, off, none⟩) := by rw [e, h5]; simp
        simp [execOp, ho, e2, Instr.storeAt, Instr.sureAddr, storeVar, hl, run_sizeOf hs w, toL_cells, hrun]
      · rw [if_neg hs] at h; cases h
    · cases h

/-! ### New variables -/
def zeroL (P : Program) (t : TypeId) : Option (List Value) :=
  match P.info? t with
  | some i => match i.zero with | some z => if plainV z then some (toL z) else none | none => none
  | none => none
theorem run_zero {P : Program} {t : TypeId} {l : List Value} (h : zeroL P t = some l) (w : World) : ∃ z, (zeroValue t).run P w = .ok z w ∧ toL z = l ∧ plainV z = true := by
  unfold zeroL at h
  cases hi : P.info? t with
  | none => simp [hi] at h
  | some i =>
    simp only [hi] at h
    cases hz : i.zero with
    | none => simp [hz] at h
    | some z =>
      simp only [hz] at h
      by_cases hp : plainV z = true
      · rw [if_pos hp] at h; cases h
        exact ⟨z, by simp [zeroValue, typeInfo, hi, hz], rfl, hp⟩
      · rw [if_neg hp] at h; cases h

theorem newCells {ι : Inj} {m : CM} {w : World} (hr : Rel ι m w) {c : List Value} {arr : Array Value} (e : TypeId) (esz : Nat) (hc : c.length ≤ arr.size)
    (hcells : ∀ (i : Nat) (v : Value), c[i]? = some v → ∃ v', tr ι v = some v' ∧ arr[i]? = some v') :
    Rel (ι.ext m.next ⟨w.heap.size, 0, arr.size, esz, none⟩) (m.alloc (.cells c esz true)) (w.alloc (.cells arr e)) ∧
    Fr ι m w (ι.ext m.next ⟨w.heap.size, 0, arr.size, esz, none⟩) (m.alloc (.cells c esz true)) (w.alloc (.cells arr e)) := by
  refine hr.newBlock rfl ?_
  have hh : (w.alloc (.cells arr e)).heap[w.heap.size]? = some (.cells arr e (0, 0)) := by show (w.heap.push _)[w.heap.size]? = _; simp
  refine ⟨rfl, hc, fun i v hv => ?_, fun _ => ⟨rfl, arr, e, hh, rfl⟩⟩
  obtain ⟨v', ht, ha⟩ := hcells i v hv
  exact ⟨v', tr_mono (Inj.le_ext (hr.fresh _ (Nat.le_refl _))) _ _ ht, by simp only [World.cell?, hh]; simpa using ha⟩

theorem op_alloc {t : TypeId} {l : List Value} (ho : o.op = .alloc t) (h : zeroL P t = some l) :
    OpVal P r o a m (.pointer (some ⟨m.next, 0, none⟩)) (m.alloc (.cells l 0 true)) :=
  opVal_of_run (by simp [ho]) fun ι w aw hr ha => by
    obtain ⟨z, hz, hl, hp⟩ := run_zero h w
    have hl' : z.cells.toList = l := by rw [toL_cells]; exact hl
    have htr : trL ι l = some l := by rw [← hl]; exact trL_toL (tr_plain ι z hp)
    obtain ⟨h1, h2⟩ := newCells hr (c := l) (arr := z.cells) t 0 (by rw [← hl']; simp) (fun i v hv => by
      obtain ⟨v', hv', ht⟩ := trL_get htr i v hv
      exact ⟨v', ht, by rw [← Array.getElem?_toList, hl']; exact hv'⟩)
    refine ⟨_, _, .pointer (some ⟨w.heap.size, 0, none⟩), .inl ?_, Inj.le_ext (hr.fresh _ (Nat.le_refl _)), h1, ?_, h2⟩
    · simp [execOp, ho, Instr.alloc, hz, newVar, newRow]
    · simp [tr, trA, Inj.ext_same]
theorem op_box {t : TypeId} {x : Operand} (ho : o.op = .box t x) (hx : opdOk x = true) :
    OpVal P r o a m (.pointer (some ⟨m.next, 0, none⟩)) (m.alloc (.cells (toL (a.ev x)) 0 true)) :=
  opVal_of_run (by simp [ho]) fun ι w aw hr ha => by
    have htr := trL_toL (ha.ev hx)
    have hlen := trL_length htr
    obtain ⟨h1, h2⟩ := newCells hr (c := toL (a.ev x)) (arr := (aw.eval x).cells) t 0 (by rw [← Array.length_toList, toL_cells]; omega) (fun i v hv => by
      obtain ⟨v', hv', ht⟩ := trL_get htr i v hv
      exact ⟨v', ht, by rw [← Array.getElem?_toList, toL_cells]; exact hv'⟩)
    refine ⟨_, _, .pointer (some ⟨w.heap.size, 0, none⟩), .inl ?_, Inj.le_ext (hr.fresh _ (Nat.le_refl _)), h1, ?_, h2⟩
    · simp [execOp, ho, Instr.box, newVar, newRow]
    · simp [tr, trA, Inj.ext_same]

/-! ### Addresses -/
def cfa (P : Program) (s : TypeId) (f : Nat) (x : Value) : Option Value :=
  match P.underlying s with
  | some (.struct fs) =>
    match fs[f]? with
    | some fd =>
      match szOf P fd.type, x with
      | some (_ + 1), .pointer (some ⟨b, o, none⟩) => some (.pointer (some ⟨b, o + fd.offset, none⟩))
      | _, _ => none
    | none => none
  | _ => none
theorem addr_add (b o n : Nat) : (⟨b, o, none⟩ : Addr).add n = ⟨b, o + n, none⟩ := by
  unfold Addr.add; split
  · rename_i e; subst e; simp
  · rfl
theorem op_fa {s : TypeId} {x : Operand} {f : Nat} {v : Value} (ho : o.op = .fieldAddr s x f) (hx : opdOk x = true) (h : cfa P s f (a.ev x) = some v) : OpVal P r o a m v m :=
  opVal_of_pure (by simp [ho]) fun ι w aw hr ha => by
    have h0 := ha.ev hx
    unfold cfa at h
    split at h
    · rename_i fs hu
      split at h
      · rename_i fd hfd
        split at h
        · rename_i n b off hs hb
          cases h
          rw [hb] at h0
          obtain ⟨p, hp, e⟩ := tr_pointer h0
          refine ⟨.pointer (some ⟨p.blk, p.off + (off + fd.offset), none⟩), ?_, by simp [tr, trA, hp]⟩
          simp [execOp, ho, e, Instr.fieldAt, underlying, hu, hfd, Instr.sureAddr, fieldPlace, run_sizeOf hs w, addr_add, Nat.add_assoc]
        · cases h
      · cases h
    · cases h

def cia (P : Program) (t : TypeId) (x i : Value) : Option Value :=
  match P.underlying t, x, i with
  | some (.array n e), .pointer (some ⟨b, o, none⟩), .int _ i =>
    match szOf P e with
    | some s => if 0 ≤ i ∧ i < n then some (.pointer (some ⟨b, o + i.toNat * s, none⟩)) else none
    | none => none
  | some (.slice e), .slice (some ⟨b, o, none⟩) n _, .int _ i =>
    match szOf P e with
    | some s => if 0 ≤ i ∧ i < n then some (.pointer (some ⟨b, o + i.toNat * s, none⟩)) else none
    | none => none
  | _, _, _ => none
theorem tr_slice {ι : Inj} {b o l k : Nat} {v : Value} (h : tr ι (.slice (some ⟨b, o, none⟩) l k) = some v) :
    ∃ p, ι b = some p ∧ v = .slice (some ⟨p.blk, p.off + o, none⟩) l (if k = 0 then (p.lim - o) / p.esz else k - 1) ∧ l ≤ (if k = 0 then (p.lim - o) / p.esz else k - 1) := by
  simp only [tr, trS] at h
  cases hi : ι b with
  | none => simp [hi] at h
  | some p =>
    simp only [hi] at h
    generalize hcap : (if k = 0 then (p.lim - o) / p.esz else k - 1) = cap at h ⊢
    by_cases hc : l ≤ cap
    · rw [if_pos hc] at h; cases h; exact ⟨p, rfl, by rw [hcap], by rw [hcap]; exact hc⟩
    · rw [if_neg hc] at h; cases h
theorem op_ia {t : TypeId} {x i : Operand} {v : Value} (ho : o.op = .indexAddr t x i) (hx : opdOk x = true) (hi : opdOk i = true) (h : cia P t (a.ev x) (a.ev i) = some v) : OpVal P r o a m v m :=
  opVal_of_pure (by simp [ho]) fun ι w aw hr ha => by
    have h0 := ha.ev hx
    have h1 := ha.ev hi
    unfold cia at h
    split at h
    · rename_i n e b off k i hu hb hk
      split at h
      · rename_i s hs
        by_cases hc : 0 ≤ i ∧ i < n
        · rw [if_pos hc] at h; cases h
          rw [hb] at h0; rw [hk] at h1
          obtain ⟨p, hp, e1⟩ := tr_pointer h0
          have e2 := tr_int h1
          refine ⟨.pointer (some ⟨p.blk, p.off + (off + i.toNat * s), none⟩), ?_, by simp [tr, trA, hp]⟩
          simp [execOp, ho, e1, e2, Instr.indexAt, asIntOf, underlying, hu, Instr.sureAddr, hc, run_sizeOf hs w, addr_add, Nat.add_assoc]
        · rw [if_neg hc] at h; cases h
      · cases h
    · rename_i e b off n k kk i hu hb hk
      split at h
      · rename_i s hs
        by_cases hc : 0 ≤ i ∧ i < n
        · rw [if_pos hc] at h; cases h
          rw [hb] at h0; rw [hk] at h1
          obtain ⟨p, hp, e1, _⟩ := tr_slice h0
          have e2 := tr_int h1
          refine ⟨.pointer (some ⟨p.blk, p.off + (off + i.toNat * s), none⟩), ?_, by simp [tr, trA, hp]⟩
          simp [execOp, ho, e1, e2, Instr.indexAt, asIntOf, underlying, hu, hc, run_sizeOf hs w, addr_add, Nat.add_assoc]
        · rw [if_neg hc] at h; cases h
      · cases h
    · cases h

/-! ### Parts of values -/
def cpart (P : Program) (t : TypeId) (l : List Value) (off : Nat) : Option Value :=
  match aggB P t with
  | some true => match szOf P t with | some n => some (.agg ⟨(l.drop off).take n⟩) | none => none
  | some false => l[off]?
  | none => none
theorem trL_drop {ι : Inj} : ∀ {l l' : List Value} (n : Nat), trL ι l = some l' → trL ι (l.drop n) = some (l'.drop n)
  | l, l', 0, h => by simpa using h
  | [], l', n + 1, h => by simp [trL] at h; subst h; simp [trL]
  | v :: l, l', n + 1, h => by
    simp only [trL] at h
    split at h
    · rename_i v2 l2 h1 h2
      cases h
      simpa using trL_drop n h2
    · cases h
theorem trL_take {ι : Inj} : ∀ {l l' : List Value} (n : Nat), trL ι l = some l' → trL ι (l.take n) = some (l'.take n)
  | l, l', 0, h => by simp [trL]
  | [], l', n + 1, h => by simp [trL] at h; subst h; simp [trL]
  | v :: l, l', n + 1, h => by
    simp only [trL] at h
    split at h
    · rename_i v2 l2 h1 h2
      cases h
      simp [trL, h1, trL_take n h2]
    · cases h
theorem run_part {P : Program} {ι : Inj} {t : TypeId} {l l' : List Value} {off : Nat} {v : Value} (hl : trL ι l = some l') (h : cpart P t l off = some v) (w : World) :
    ∃ v', (part t ⟨l'⟩ off).run P w = .ok v' w ∧ tr ι v = some v' := by
  unfold cpart at h
  split at h
  · rename_i ha
    split at h
    · rename_i n hs
      cases h
      have := trL_take n (trL_drop off hl)
      refine ⟨.agg ⟨(l'.drop off).take n⟩, ?_, by simp [tr, this]⟩
      simp [part, run_isAgg ha w, run_sizeOf hs w, Nat.add_sub_cancel_left]
    · cases h
  · rename_i ha
    obtain ⟨v', hv', ht⟩ := trL_get hl _ _ h
    refine ⟨v', ?_, ht⟩
    simp [part, run_isAgg ha w, hv']
  · cases h
def cfield (P : Program) (t : TypeId) (x : Value) (f : Nat) : Option Value :=
  match P.underlying t, x with
  | some (.struct fs), .agg ⟨l⟩ => match fs[f]? with | some fd => cpart P fd.type l fd.offset | none => none
  | _, _ => none
theorem tr_agg {ι : Inj} {l : List Value} {v : Value} (h : tr ι (.agg ⟨l⟩) = some v) : ∃ l', trL ι l = some l' ∧ v = .agg ⟨l'⟩ := by
  simp only [tr] at h
  cases h1 : trL ι l with
  | none => simp [h1] at h
  | some l' => simp [h1] at h; exact ⟨l', rfl, h.symm⟩
theorem op_field {t : TypeId} {x : Operand} {f : Nat} {v : Value} (ho : o.op = .field t x f) (hx : opdOk x = true) (h : cfield P t (a.ev x) f = some v) : OpVal P r o a m v m :=
  opVal_of_pure (by simp [ho]) fun ι w aw hr ha => by
    have h0 := ha.ev hx
    unfold cfield at h
    split at h
    · rename_i fs l hu hl
      split at h
      · rename_i fd hfd
        rw [hl] at h0
        obtain ⟨l', h1, e⟩ := tr_agg h0
        obtain ⟨v', hrun, ht⟩ := run_part h1 h w
        exact ⟨v', by simp [execOp, ho, e, Instr.field, underlying, hu, hfd, asAgg, hrun], ht⟩
      · cases h
    · cases h
def cindex (P : Program) (t : TypeId) (x i : Value) : Option Value :=
  match P.underlying t, x, i with
  | some (.array n e), .agg ⟨l⟩, .int _ i =>
    match szOf P e with
    | some s => if 0 ≤ i ∧ i < n then cpart P e l (i.toNat * s) else none
    | none => none
  | some .string, .string s, .int _ i => if 0 ≤ i then (s[i.toNat]?).map fun b => .int .u8 b.toNat else none
  | _, _, _ => none
theorem op_index {t : TypeId} {x i : Operand} {v : Value} (ho : o.op = .index t x i) (hx : opdOk x = true) (hi : opdOk i = true) (h : cindex P t (a.ev x) (a.ev i) = some v) : OpVal P r o a m v m :=
  opVal_of_pure (by simp [ho]) fun ι w aw hr ha => by
    have h0 := ha.ev hx
    have h1 := ha.ev hi
    unfold cindex at h
    split at h
    · rename_i n e l k i hu hb hk
      split at h
      · rename_i s hs
        by_cases hc : 0 ≤ i ∧ i < n
        · rw [if_pos hc] at h
          rw [hb] at h0; rw [hk] at h1
          obtain ⟨l', h2, e1⟩ := tr_agg h0
          have e2 := tr_int h1
          obtain ⟨v', hrun, ht⟩ := run_part h2 h w
          exact ⟨v', by simp [execOp, ho, e1, e2, Instr.index, asIntOf, underlying, hu, hc, run_sizeOf hs w, hrun], ht⟩
        · rw [if_neg hc] at h; cases h
      · cases h
    · rename_i s k i hu hb hk
      by_cases hc : 0 ≤ i
      · rw [if_pos hc] at h
        rw [hb] at h0; rw [hk] at h1
        have e1 := tr_string h0
        have e2 := tr_int h1
        cases hb2 : s[i.toNat]? with
        | none => simp [hb2] at h
        | some b =>
          simp [hb2] at h; subst h
          exact ⟨.int .u8 b.toNat, by simp [execOp, ho, e1, e2, Instr.index, asIntOf, underlying, hu, hc, hb2], by simp [tr]⟩
      · rw [if_neg hc] at h; cases h
    · cases h
end
end Go.Proofs.Ytjkfleibnojjaaa
end

section
namespace Go.Proofs.Ytjkfleibnojjaaa
open Go

/-! ### Slices of slices, strings, arrays -/
def bnd (x : Option Value) (d : Nat) : Option Nat :=
  match x with
  | none => some d
  | some (.int _ i) => if 0 ≤ i then some i.toNat else none
  | some _ => none

theorem bnd_some {v : Value} {d n : Nat} (h : bnd (some v) d = some n) : ∃ k, v = .int k n := by
  unfold bnd at h
  cases v with
  | int k i =>
    simp only at h
    split at h
    · cases h; exact ⟨k, by congr 1; omega⟩
    · cases h
  | _ => simp at h
theorem run_sliceBound {P : Program} {k : IntKind} {n y : Nat} (h : n ≤ y) (c : BoundsCode) (w : World) : (Instr.sliceBound (.int k n) y c).run P w = .ok n w := by
  have : (0 : Int) ≤ n ∧ (n : Int) ≤ y := by omega
  simp [Instr.sliceBound, asIntOf, this]
theorem run_sliceBounds {P : Program} {isS : Bool} {len cap l h : Nat} {lo hi : Option Value} (hl : bnd lo 0 = some l) (hh : bnd hi len = some h) (h1 : l ≤ h) (h2 : h ≤ len) (h3 : len ≤ cap) (w : World) :
    (Instr.sliceBounds isS len cap lo hi none).run P w = .ok (l, h, cap) w := by
  cases lo with
  | none =>
    simp only [bnd] at hl
    cases hi with
    | none => simp only [bnd] at hh; cases hl; cases hh; simp [Instr.sliceBounds]
    | some hv =>
      obtain ⟨k, rfl⟩ := bnd_some hh
      cases hl
      have := run_sliceBound (P := P) (k := k) (n := h) (y := cap) (by omega)
      simp [Instr.sliceBounds, this]
  | some lv =>
    obtain ⟨k1, rfl⟩ := bnd_some hl
    cases hi with
    | none =>
      simp only [bnd] at hh; cases hh
      have := run_sliceBound (P := P) (k := k1) (n := l) (y := len) h1
      simp [Instr.sliceBounds, this]
    | some hv =>
      obtain ⟨k2, rfl⟩ := bnd_some hh
      have e1 := run_sliceBound (P := P) (k := k1) (n := l) (y := h) h1
      have e2 := run_sliceBound (P := P) (k := k2) (n := h) (y := cap) (by omega)
      simp [Instr.sliceBounds, e1, e2]
theorem run_sliceBounds3 {P : Program} {isS : Bool} {len cap l h mm : Nat} {lo hi : Option Value} {mx : Value} (hl : bnd lo 0 = some l) (hh : bnd hi 0 = some h) (hi0 : hi.isSome = true) (hm : bnd (some mx) 0 = some mm) (h1 : l ≤ h) (h2 : h ≤ mm) (h3 : mm ≤ cap) (w : World) :
    (Instr.sliceBounds isS len cap lo hi (some mx)).run P w = .ok (l, h, mm) w := by
  obtain ⟨k0, rfl⟩ := bnd_some hm
  have e0 := run_sliceBound (P := P) (k := k0) (n := mm) (y := cap) h3
  cases hi with
  | none => simp at hi0
  | some hv =>
    obtain ⟨k2, rfl⟩ := bnd_some hh
    have e2 := run_sliceBound (P := P) (k := k2) (n := h) (y := mm) h2
    cases lo with
    | none =>
      simp only [bnd] at hl; cases hl
      simp [Instr.sliceBounds, e0, e2]
    | some lv =>
      obtain ⟨k1, rfl⟩ := bnd_some hl
      have e1 := run_sliceBound (P := P) (k := k1) (n := l) (y := h) h1
      simp [Instr.sliceBounds, e0, e1, e2]

def cslice (P : Program) (t : TypeId) (x : Value) (lo hi mx : Option Value) (m : CM) : Option Value :=
  match P.underlying t, x with
  | some .string, .string s =>
    match bnd lo 0, bnd hi s.size, mx with
    | some l, some h, none => if l ≤ h ∧ h ≤ s.size then some (.string (s.extract l h)) else none
    | _, _, _ => none
  | some (.slice e), .slice none 0 0 =>
    match szOf P e, bnd lo 0, bnd hi 0, mx with
    | some _, some 0, some 0, none => some (.slice none 0 0)
    | _, _, _, _ => none
  | some (.slice e), .slice (some ⟨b, o, none⟩) len k =>
    match szOf P e, m.get b with
    | some (sz + 1), some (.cells _ esz _) =>
      if esz = sz + 1 then
        match mx with
        | none =>
          match bnd lo 0, bnd hi len with
          | some l, some h =>
            if l ≤ h ∧ h ≤ len then
              if k = 0 then
                if l < h ∨ l = 0 then some (.slice (some ⟨b, o + l * (sz + 1), none⟩) (h - l) 0) else some (.slice (some ⟨b, o, some l⟩) 0 0)
              else some (.slice (some ⟨b, if k - 1 = l then o else o + l * (sz + 1), none⟩) (h - l) (k - l))
            else none
          | _, _ => none
        | some mv =>
          match bnd lo 0, bnd hi 0, bnd (some mv) 0 with
          | some l, some h, some mm =>
            if l ≤ h ∧ h ≤ mm ∧ mm ≤ len ∧ hi.isSome = true then some (.slice (some ⟨b, if mm = l then o else o + l * (sz + 1), none⟩) (h - l) (mm - l + 1)) else none
          | _, _, _ => none
      else none
    | _, _ => none
  | some (.array n e), .pointer (some ⟨b, o, none⟩) =>
    match szOf P e, mx with
    | some sz, none =>
      match bnd lo 0, bnd hi n with
      | some l, some h => if l ≤ h ∧ h ≤ n then some (.slice (some ⟨b, if n = l then o else o + l * sz, none⟩) (h - l) (n - l + 1)) else none
      | _, _ => none
    | _, _ => none
  | _, _ => none

theorem run_slice {P : Program} {ι : Inj} {m : CM} {w : World} (hr : Rel ι m w) {t : TypeId} {x x' v : Value} {lo hi mx : Option Value} (hx : tr ι x = some x') (h : cslice P t x lo hi mx m = some v) :
    ∃ v', (Instr.sliceAt t x' lo hi mx).run P w = .ok v' w ∧ tr ι v = some v' := by
  unfold cslice at h
  split at h
  · -- a string
    rename_i s hu
    have e := tr_string hx
    subst e
    split at h
    · rename_i l hh h1 h2
      by_cases hc : l ≤ hh ∧ hh ≤ s.size
      · rw [if_pos hc] at h; cases h
        have := run_sliceBounds (P := P) (isS := false) (cap := s.size) h1 h2 hc.1 hc.2 (Nat.le_refl _) w
        exact ⟨_, by simp [Instr.sliceAt, underlying, hu, Instr.slice, this]; rfl, by simp [tr]⟩
      · rw [if_neg hc] at h; cases h
    · cases h
  · -- nil
    rename_i e0 hu
    simp [tr] at hx; subst hx
    split at h
    · rename_i sz hs h1 h2
      cases h
      have := run_sliceBounds (P := P) (isS := true) (len := 0) (cap := 0) h1 h2 (Nat.le_refl _) (Nat.le_refl _) (Nat.le_refl _) w
      exact ⟨.slice none 0 0, by simp [Instr.sliceAt, underlying, hu, Instr.slice, this, run_sizeOf hs w], by simp [tr]⟩
    · cases h
  · -- a slice
    rename_i e0 b o len k hu
    split at h
    · rename_i sz c esz own hs hb
      by_cases hez : esz = sz + 1
      · rw [if_pos hez] at h
        obtain ⟨p, hp, e1, hcap⟩ := tr_slice hx
        obtain ⟨q, hq, hpe, _⟩ := hr.blk _ _ hb
        rw [hp] at hq; cases hq
        subst e1
        generalize hcape : (if k = 0 then (p.lim - o) / p.esz else k - 1) = cap at hcap
        split at h
        · split at h
          · rename_i l hh h1 h2
            by_cases hc : l ≤ hh ∧ hh ≤ len
            · rw [if_pos hc] at h
              have hrun := run_sliceBounds (P := P) (isS := true) (cap := cap) h1 h2 hc.1 hc.2 hcap w
              have hw : (Instr.sliceAt t (.slice (some ⟨p.blk, p.off + o, none⟩) len cap) lo hi none).run P w =
                  .ok (.slice (some (if cap = l then ⟨p.blk, p.off + o, none⟩ else ⟨p.blk, p.off + o + l * (sz + 1), none⟩)) (hh - l) (cap - l)) w := by
                simp only [Instr.sliceAt, underlying, hu, Instr.slice, hrun, run_sizeOf hs w, addr_add, Sem.run_bind, Sem.run_pure, run_program, Result.andThen_ok, Option.map_some]
                by_cases hcl : cap = l
                · rw [if_pos hcl, if_pos hcl]
                · rw [if_neg hcl, if_neg hcl]
              refine ⟨_, hw, ?_⟩
              by_cases hk : k = 0
              · rw [if_pos hk] at h
                rw [if_pos hk] at hcape
                by_cases hl : l < hh ∨ l = 0
                · rw [if_pos hl] at h; cases h
                  have hd : (p.lim - (o + l * (sz + 1))) / p.esz = cap - l := by
                    rw [hpe, hez, ← Nat.sub_sub, Nat.mul_comm l, Nat.sub_mul_div, ← hcape, hpe, hez]
                  simp only [tr, trS, hp, if_true, hd]
                  rw [if_pos (by omega)]
                  congr 2
                  by_cases hcl : cap = l
                  · rw [if_pos hcl]
                    have : l = 0 := by omega
                    subst this; simp
                  · rw [if_neg hcl, Nat.add_assoc]
                · rw [if_neg hl] at h; cases h
                  have he : hh = l := by omega
                  simp only [tr, trS, hp, if_true, hcape, true_and]
                  rw [if_pos (by omega), he, Nat.sub_self, if_neg (show ¬ p.esz = 0 by omega)]
                  congr 2
                  by_cases hcl : cap = l
                  · rw [if_pos hcl, if_pos hcl.symm]
                  · rw [if_neg hcl, if_neg (Ne.symm hcl), hpe, hez]
              · rw [if_neg hk] at h; cases h
                rw [if_neg hk] at hcape
                have hk2 : k - l ≠ 0 := by omega
                simp only [tr, trS, hp, hk2, if_false]
                rw [if_pos (by omega)]
                congr 2
                · by_cases hcl : cap = l
                  · rw [if_pos hcl, if_pos (by omega)]
                  · rw [if_neg hcl, if_neg (by omega), Nat.add_assoc]
                · omega
            · rw [if_neg hc] at h; cases h
          · cases h
        · rename_i mv
          split at h
          · rename_i l hh mm h1 h2 h3
            by_cases hc : l ≤ hh ∧ hh ≤ mm ∧ mm ≤ len ∧ hi.isSome = true
            · rw [if_pos hc] at h; cases h
              obtain ⟨c1, c2, c3, c4⟩ := hc
              have hrun := run_sliceBounds3 (P := P) (isS := true) (len := len) (cap := cap) h1 h2 c4 h3 c1 c2 (by omega) w
              have hw : (Instr.sliceAt t (.slice (some ⟨p.blk, p.off + o, none⟩) len cap) lo hi (some mv)).run P w =
                  .ok (.slice (some (if mm = l then ⟨p.blk, p.off + o, none⟩ else ⟨p.blk, p.off + o + l * (sz + 1), none⟩)) (hh - l) (mm - l)) w := by
                simp only [Instr.sliceAt, underlying, hu, Instr.slice, hrun, run_sizeOf hs w, addr_add, Sem.run_bind, Sem.run_pure, run_program, Result.andThen_ok, Option.map_some]
                by_cases hcl : mm = l
                · rw [if_pos hcl, if_pos hcl]
                · rw [if_neg hcl, if_neg hcl]
              refine ⟨_, hw, ?_⟩
              have hk2 : mm - l + 1 ≠ 0 := by omega
              simp only [tr, trS, hp, hk2, if_false, Nat.add_sub_cancel]
              rw [if_pos (by omega)]
              congr 2
              by_cases hcl : mm = l
              · rw [if_pos hcl, if_pos hcl]
              · rw [if_neg hcl, if_neg hcl, Nat.add_assoc]
            · rw [if_neg hc] at h; cases h
          · cases h
      · rw [if_neg hez] at h; cases h
    · cases h
  · -- an array
    rename_i n e0 b o hu
    split at h
    · rename_i sz hs
      split at h
      · rename_i l hh h1 h2
        by_cases hc : l ≤ hh ∧ hh ≤ n
        · rw [if_pos hc] at h; cases h
          obtain ⟨p, hp, e1⟩ := tr_pointer hx
          subst e1
          have hrun := run_sliceBounds (P := P) (isS := false) (cap := n) h1 h2 hc.1 hc.2 (Nat.le_refl _) w
          have hw : (Instr.sliceAt t (.pointer (some ⟨p.blk, p.off + o, none⟩)) lo hi none).run P w =
              .ok (.slice (some (if n = l then ⟨p.blk, p.off + o, none⟩ else ⟨p.blk, p.off + o + l * sz, none⟩)) (hh - l) (n - l)) w := by
            simp only [Instr.sliceAt, underlying, hu, Instr.sureAddr, hrun, run_sizeOf hs w, addr_add, Sem.run_bind, Sem.run_pure, run_program, Result.andThen_ok]
          refine ⟨_, hw, ?_⟩
          have hk2 : n - l + 1 ≠ 0 := by omega
          simp only [tr, trS, hp, hk2, if_false, Nat.add_sub_cancel]
          rw [if_pos (by omega)]
          congr 2
          by_cases hcl : n = l
          · rw [if_pos hcl, if_pos hcl]
          · rw [if_neg hcl, if_neg hcl, Nat.add_assoc]
        · rw [if_neg hc] at h; cases h
      · cases h
    · cases h
  · cases h

section
variable {P : Program} {r : Option Nat} {o : Oper} {a : CA} {m : CM}
def bndOk (x : Option Operand) : Bool := match x with | some x => opdOk x | none => true
theorem bnd_tr {ι : Inj} {a : CA} {aw : Act} (ha : RelA ι a aw) {x : Option Operand} (hx : bndOk x = true) {d n : Nat} (h : bnd (x.map a.ev) d = some n) : x.map aw.eval = x.map a.ev := by
  cases x with
  | none => rfl
  | some x =>
    obtain ⟨k, hk⟩ := bnd_some h
    have := ha.ev hx
    rw [hk] at this
    simp [tr_int this, hk]
theorem cslice_bnds {t : TypeId} {x : Value} {lo hi mx : Option Value} {v : Value} (h : cslice P t x lo hi mx m = some v) :
    (∃ n, bnd lo 0 = some n) ∧ (∃ d n, bnd hi d = some n) ∧ (∃ n, bnd mx 0 = some n) := by
  unfold cslice at h
  split at h
  · split at h
    · rename_i l hh h1 h2; exact ⟨⟨_, h1⟩, ⟨_, _, h2⟩, ⟨0, rfl⟩⟩
    · cases h
  · split at h
    · rename_i hs h1 h2; exact ⟨⟨_, h1⟩, ⟨_, _, h2⟩, ⟨0, rfl⟩⟩
    · cases h
  · split at h
    · split at h
      · split at h
        · split at h
          · rename_i l hh h1 h2; exact ⟨⟨_, h1⟩, ⟨_, _, h2⟩, ⟨0, rfl⟩⟩
          · cases h
        · split at h
          · rename_i l hh mm h1 h2 h3; exact ⟨⟨_, h1⟩, ⟨_, _, h2⟩, ⟨_, h3⟩⟩
          · cases h
      · cases h
    · cases h
  · split at h
    · split at h
      · rename_i l hh h1 h2; exact ⟨⟨_, h1⟩, ⟨_, _, h2⟩, ⟨0, rfl⟩⟩
      · cases h
    · cases h
  · cases h
theorem op_slice {t : TypeId} {x : Operand} {lo hi mx : Option Operand} {v : Value} (ho : o.op = .slice t x lo hi mx) (hx : opdOk x = true) (h1 : bndOk lo = true) (h2 : bndOk hi = true) (h3 : bndOk mx = true)
    (h : cslice P t (a.ev x) (lo.map a.ev) (hi.map a.ev) (mx.map a.ev) m = some v) : OpVal P r o a m v m :=
  opVal_of_pure (by simp [ho]) fun ι w aw hr ha => by
    obtain ⟨⟨n1, g1⟩, ⟨d2, n2, g2⟩, ⟨n3, g3⟩⟩ := cslice_bnds h
    obtain ⟨v', hrun, ht⟩ := run_slice hr (ha.ev hx) h
    refine ⟨v', ?_, ht⟩
    rw [← bnd_tr ha h1 g1, ← bnd_tr ha h2 g2, ← bnd_tr ha h3 g3] at hrun
    simp [execOp, ho, hrun]
end
end Go.Proofs.Ytjkfleibnojjaaa
end

section
namespace Go.Proofs.Ytjkfleibnojjaaa
open Go

/-! ### Composite values -/
def cfill (place : Nat → Option (Nat × Nat)) (cells : List Value) : List (Nat × Value) → Option (List Value)
  | [] => some cells
  | (i, v) :: rest =>
    match place i with
    | none => none
    | some (off, size) => if (toL v).length = size ∧ off + size ≤ cells.length then cfill place (splice cells off (toL v)) rest else none

def trPts (ι : Inj) : List (Nat × Value) → Option (List (Nat × Value))
  | [] => some []
  | (i, v) :: l => match tr ι v, trPts ι l with | some v, some l => some ((i, v) :: l) | _, _ => none

theorem foldl_set (off : Nat) : ∀ (vs : List Value) (k : Nat) (arr : Array Value), off + k + vs.length ≤ arr.size →
    ((vs.zipIdx k).foldl (fun (cs : Array Value) (p : Value × Nat) => cs.setIfInBounds (off + p.2) p.1) arr).toList = splice arr.toList (off + k) vs
  | [], k, arr, h => by simp [splice]
  | v :: vs, k, arr, h => by
    simp only [List.length_cons] at h
    simp only [List.zipIdx_cons, List.foldl_cons]
    rw [foldl_set off vs (k + 1) (arr.setIfInBounds (off + k) v) (by simp; omega)]
    apply List.ext_getElem?
    intro i
    rw [splice_get (by simp; omega), splice_get (by simp; omega)]
    simp only [List.length_cons, Array.toList_setIfInBounds]
    by_cases c1 : i < off + k
    · rw [if_pos (by omega), if_pos c1, List.getElem?_set, if_neg (by omega)]
    · rw [if_neg c1]
      by_cases c2 : i = off + k
      · subst c2
        rw [if_pos (by omega), if_pos (by omega), List.getElem?_set, if_pos rfl, if_pos (by simp; omega)]
        simp
      · rw [if_neg (by omega)]
        by_cases c3 : i < off + k + (vs.length + 1)
        · rw [if_pos (by omega), if_pos (by omega), show i - (off + k) = (i - (off + (k + 1))) + 1 from by omega]; simp
        · rw [if_neg (by omega), if_neg (by omega), List.getElem?_set, if_neg (by omega)]

theorem trL_append {ι : Inj} : ∀ {l k l' k' : List Value}, trL ι l = some l' → trL ι k = some k' → trL ι (l ++ k) = some (l' ++ k')
  | [], k, l', k', h, g => by simp [trL] at h; subst h; simpa using g
  | v :: l, k, l', k', h, g => by
    simp only [trL] at h
    split at h
    · rename_i v2 l2 h1 h2
      cases h
      simp [trL, h1, trL_append h2 g]
    · cases h
theorem trL_splice {ι : Inj} {c c' vs vs' : List Value} {o : Nat} (h : trL ι c = some c') (g : trL ι vs = some vs') : trL ι (splice c o vs) = some (splice c' o vs') := by
  unfold splice
  rw [← trL_length g]
  exact trL_append (trL_append (trL_take _ h) g) (trL_drop _ h)

theorem cfill_tr {ι : Inj} {place : Nat → Option (Nat × Nat)} : ∀ {parts parts' : List (Nat × Value)} {cells cells' res : List Value}, trPts ι parts = some parts' → trL ι cells = some cells' → cfill place cells parts = some res →
    ∃ res', Instr.fill place ⟨cells'⟩ parts' = some ⟨res'⟩ ∧ trL ι res = some res'
  | [], parts', cells, cells', res, hp, hc, h => by
    simp [trPts] at hp; subst hp
    simp [cfill] at h; subst h
    exact ⟨cells', by simp [Instr.fill], hc⟩
  | (i, v) :: rest, parts', cells, cells', res, hp, hc, h => by
    simp only [trPts] at hp
    split at hp
    · rename_i v2 l2 h1 h2
      cases hp
      simp only [cfill] at h
      cases hpl : place i with
      | none => simp [hpl] at h
      | some q =>
        obtain ⟨off, size⟩ := q
        simp only [hpl] at h
        by_cases hk : (toL v).length = size ∧ off + size ≤ cells.length
        · rw [if_pos hk] at h
          have hv := trL_toL h1
          have hl1 := trL_length hv
          have hl2 := trL_length hc
          obtain ⟨res', hf, hr⟩ := cfill_tr h2 (trL_splice (o := off) hc hv) h
          refine ⟨res', ?_, hr⟩
          have e1 : v2.cells.size = (toL v).length := by rw [← Array.length_toList, toL_cells, hl1]
          simp only [Instr.fill, hpl]
          rw [if_neg (by simp [e1, hk.1]; omega)]
          rw [← hf]
          congr 1
          apply Array.ext'
          rw [← Array.foldl_toList, Array.toList_zipIdx, toL_cells]
          have := foldl_set off (toL v2) 0 ⟨cells'⟩ (by simp; omega)
          simpa using this
        · rw [if_neg hk] at h; cases h
    · cases hp

def places (P : Program) (t : TypeId) : Option (Nat → Option (Nat × Nat)) :=
  match P.underlying t with
  | some (.array _ e) => (szOf P e).map fun s i => some (i * s, s)
  | some (.struct fs) => (fs.toList.mapM fun f => (szOf P f.type).map fun s => (f.offset, s)).map fun l i => l[i]?
  | _ => none

def cbuild (P : Program) (t : TypeId) (parts : List (Nat × Value)) : Option Value :=
  match zeroL P t, places P t with
  | some z, some pl => (cfill pl z parts).map fun l => .agg ⟨l⟩
  | _, _ => none

theorem szOf_eq (P : Program) (t : TypeId) : szOf P t = (P.info? t).map (·.size) := rfl
theorem run_cbuild {P : Program} {ι : Inj} {t : TypeId} {parts parts' : List (Nat × Value)} {v : Value} (hp : trPts ι parts = some parts') (h : cbuild P t parts = some v) (w : World) :
    ∃ v', (Instr.build t ⟨parts'⟩).run P w = .ok v' w ∧ tr ι v = some v' := by
  unfold cbuild at h
  split at h
  · rename_i z pl hz hpl
    obtain ⟨zv, _, hl, hpz⟩ := run_zero hz w
    cases hf : cfill pl z parts with
    | none => simp [hf] at h
    | some l =>
      simp [hf] at h; subst h
      have hzt : trL ι z = some z := by rw [← hl]; exact trL_toL (tr_plain ι zv hpz)
      obtain ⟨res', hfl, hr⟩ := cfill_tr hp hzt hf
      refine ⟨.agg ⟨res'⟩, run_build w t _ _ ?_, by simp [tr, hr]⟩
      have hz2 : ∃ it, P.info? t = some it ∧ ∃ zz, it.zero = some zz ∧ zz.cells = ⟨z⟩ := by
        unfold zeroL at hz
        cases hi : P.info? t with
        | none => simp [hi] at hz
        | some it =>
          simp only [hi] at hz
          cases hzz : it.zero with
          | none => simp [hzz] at hz
          | some zz =>
            simp only [hzz] at hz
            by_cases hpp : plainV zz = true
            · rw [if_pos hpp] at hz; cases hz
              exact ⟨it, rfl, zz, hzz, Array.ext' (by simp [toL_cells])⟩
            · rw [if_neg hpp] at hz; cases hz
      obtain ⟨it, hi, zz, hzz, hzc⟩ := hz2
      unfold Program.built
      unfold places at hpl
      split at hpl
      · rename_i n e hu
        simp only [szOf_eq] at hpl
        cases hie : P.info? e with
        | none => simp [hie] at hpl
        | some ie =>
          simp [hie] at hpl; subst hpl
          simp only [hi, hu, hzz, hie, hzc]
          exact hfl
      · rename_i fs hu
        simp only [hi, hu, hzz]
        have e1 : (fs.toList.mapM fun f => (szOf P f.type).map fun s => (f.offset, s)) = fs.toList.mapM (fun f => (P.info? f.type).map fun i => (f.offset, i.size)) := by
          congr 1; funext f; simp [szOf_eq, Function.comp_def]
        rw [e1] at hpl
        cases hm : fs.toList.mapM (fun f => (P.info? f.type).map fun i => (f.offset, i.size)) with
        | none => simp [hm] at hpl
        | some pls =>
          simp [hm] at hpl; subst hpl
          simp only []
          have : (fun i => pls.toArray[i]?) = (fun i : Nat => pls[i]?) := by funext i; simp
          rw [this, hzc]; exact hfl
      · cases hpl
  · cases h

section
variable {P : Program} {r : Option Nat} {o : Oper} {a : CA} {m : CM}
def ptsOk (l : List (Nat × Operand)) : Bool := l.all fun p => opdOk p.2
theorem trPts_map {ι : Inj} {a : CA} {aw : Act} (ha : RelA ι a aw) : ∀ (l : List (Nat × Operand)), ptsOk l = true → trPts ι (l.map fun p => (p.1, a.ev p.2)) = some (l.map fun p => (p.1, aw.eval p.2))
  | [], _ => by simp [trPts]
  | (i, x) :: l, h => by
    simp only [ptsOk, List.all_cons, Bool.and_eq_true] at h
    simp [trPts, ha.ev h.1, trPts_map ha l h.2]
theorem op_build {t : TypeId} {parts : Array (Nat × Operand)} {v : Value} (ho : o.op = .build t parts) (hx : ptsOk parts.toList = true) (h : cbuild P t (parts.toList.map fun p => (p.1, a.ev p.2)) = some v) : OpVal P r o a m v m :=
  opVal_of_pure (by simp [ho]) fun ι w aw hr ha => by
    obtain ⟨v', hrun, ht⟩ := run_cbuild (trPts_map ha _ hx) h w
    refine ⟨v', ?_, ht⟩
    have e : (parts.map fun (p : Nat × Operand) => (p.1, aw.eval p.2)) = ⟨parts.toList.map fun p => (p.1, aw.eval p.2)⟩ := Array.ext' (by simp)
    simp only [execOp, ho]
    have : (parts.map fun (x : Nat × Operand) => match x with | (i, x) => (i, aw.eval x)) = (parts.map fun (p : Nat × Operand) => (p.1, aw.eval p.2)) := rfl
    rw [this, e]; simp [hrun]

/-- n times the zero value. -/
def zeros (z : List Value) : Nat → List Value
  | 0 => []
  | n + 1 => z ++ zeros z n
theorem zeros_length (z : List Value) (n : Nat) : (zeros z n).length = n * z.length := by
  induction n with
  | zero => simp [zeros]
  | succ n ih => simp [zeros, ih, Nat.succ_mul]; omega
theorem zeros_get (z : List Value) (n i : Nat) (h : i < n * z.length) : (zeros z n)[i]? = z[i % z.length]? := by
  induction n generalizing i with
  | zero => simp at h
  | succ n ih =>
    simp only [zeros]
    by_cases c : i < z.length
    · rw [List.getElem?_append_left c, Nat.mod_eq_of_lt c]
    · rw [List.getElem?_append_right (by omega), ih _ (by rw [Nat.succ_mul] at h; omega)]
      congr 1
      exact (Nat.mod_eq_sub_mod (by omega)).symm
theorem trL_zeros {ι : Inj} {z : List Value} (hz : trL ι z = some z) (n : Nat) : trL ι (zeros z n) = some (zeros z n) := by
  induction n with
  | zero => simp [zeros, trL]
  | succ n ih => exact trL_append hz ih
theorem zeros_array (z : List Value) (n : Nat) : ((Array.range (n * z.length)).map (fun i => (⟨z⟩ : Array Value)[i % (⟨z⟩ : Array Value).size]!)) = ⟨zeros z n⟩ := by
  apply Array.ext'
  apply List.ext_getElem?
  intro i
  by_cases c : i < n * z.length
  · have hz : 0 < z.length := by
      apply Nat.pos_of_ne_zero; intro e; simp [e] at c
    have hm : i % z.length < z.length := Nat.mod_lt _ hz
    rw [zeros_get z n i c, Array.toList_map, List.getElem?_map, Array.toList_range, List.getElem?_range c]
    simp [hm]
  · rw [List.getElem?_eq_none (by simpa using c), List.getElem?_eq_none (by simpa [zeros_length] using c)]

def cbuildS (P : Program) (t : TypeId) (len : Nat) (parts : List (Nat × Value)) (m : CM) : Option (Value × CM) :=
  match P.underlying t with
  | some (.slice e) =>
    match szOf P e, zeroL P e with
    | some (s + 1), some z =>
      if z.length = s + 1 ∧ len * (s + 1) ≤ 2 ^ 24 then
        match cfill (fun i => some (i * (s + 1), s + 1)) (zeros z len) parts with
        | some c => some (.slice (some ⟨m.next, 0, none⟩) len 0, m.alloc (.cells c (s + 1) true))
        | none => none
      else none
    | _, _ => none
  | _ => none

theorem op_buildS {t : TypeId} {len : Nat} {parts : Array (Nat × Operand)} {v : Value} {m' : CM} (ho : o.op = .buildSlice t len parts) (hx : ptsOk parts.toList = true)
    (h : cbuildS P t len (parts.toList.map fun p => (p.1, a.ev p.2)) m = some (v, m')) : OpVal P r o a m v m' :=
  opVal_of_run (by simp [ho]) fun ι w aw hr ha => by
    unfold cbuildS at h
    split at h
    · rename_i e0 hu
      split at h
      · rename_i s z hs hz
        by_cases hc : z.length = s + 1 ∧ len * (s + 1) ≤ 2 ^ 24
        · rw [if_pos hc] at h
          split at h
          · rename_i c hf
            cases h
            obtain ⟨zv, hrz, hl, hpz⟩ := run_zero hz w
            have hzt : trL ι z = some z := by rw [← hl]; exact trL_toL (tr_plain ι zv hpz)
            obtain ⟨res', hfl, hrr⟩ := cfill_tr (trPts_map ha _ hx) (trL_zeros hzt len) hf
            have hlc : c.length = len * (s + 1) := by
              have : ∀ {parts : List (Nat × Value)} {cells res : List Value}, cfill (fun i => some (i * (s + 1), s + 1)) cells parts = some res → res.length = cells.length := by
                intro parts
                induction parts with
                | nil => intro cells res h; simp [cfill] at h; rw [h]
                | cons p rest ih =>
                  intro cells res h
                  obtain ⟨i, v⟩ := p
                  simp only [cfill] at h
                  by_cases hk : (toL v).length = s + 1 ∧ i * (s + 1) + (s + 1) ≤ cells.length
                  · rw [if_pos hk] at h
                    rw [ih h, splice_length (by omega)]
                  · rw [if_neg hk] at h; cases h
              rw [this hf, zeros_length, hc.1]
            have hlr := trL_length hrr
            obtain ⟨h1, h2⟩ := newCells hr (c := c) (arr := ⟨res'⟩) e0 (s + 1) (by simp [hlr]) (fun i v hv => by
              obtain ⟨v', hv', ht⟩ := trL_get hrr i v hv
              exact ⟨v', ht, by simpa using hv'⟩)
            refine ⟨_, _, .slice (some ⟨w.heap.size, 0, none⟩) len len, .inl ?_, Inj.le_ext (hr.fresh _ (Nat.le_refl _)), h1, ?_, h2⟩
            · have hzz : zv.cells = ⟨z⟩ := Array.ext' (by rw [toL_cells, hl])
              have e1 : (parts.map fun (x : Nat × Operand) => match x with | (i, x) => (i, aw.eval x)) = ⟨parts.toList.map fun p => (p.1, aw.eval p.2)⟩ := Array.ext' (by simp)
              have hza := zeros_array z len
              rw [hc.1] at hza
              simp only [execOp, ho, e1]
              simp only [Instr.buildSlice, Sem.run_bind, underlying, run_program, Result.andThen_ok, hu, Sem.run_pure, run_sizeOf hs w]
              have hle : ¬ len * (s + 1) > 2 ^ 24 := by omega
              simp only [Nat.succ_eq_add_one, hle, if_false]
              have hza2 : Array.map (fun x => z[x % z.length]?.getD default) (Array.range (len * (s + 1))) = ⟨zeros z len⟩ := by simpa using hza
              by_cases h0 : len * (s + 1) = 0
              · have hl0 : len = 0 := by
                  rcases Nat.mul_eq_zero.1 h0 with h | h
                  · exact h
                  · omega
                subst hl0
                have hfl2 : Instr.fill (fun i => some (i * (s + 1), s + 1)) #[] (List.map (fun p => (p.1, aw.eval p.2)) parts.toList) = some ⟨res'⟩ := by simpa [zeros] using hfl
                have e3 : Array.map (fun _ : Nat => (default : Value)) (Array.range 0) = #[] := Array.ext' (by simp)
                simp [e3, hfl2, newRow]
              · simp only [h0, if_false]
                simp [hrz, hzz, hza2, hfl, newRow]
            · have hdiv : len * (s + 1) / (s + 1) = len := Nat.mul_div_cancel _ (by omega)
              simp only [tr, trS, Inj.ext_same, if_true, Nat.sub_zero]
              have : (⟨res'⟩ : Array Value).size = len * (s + 1) := by simp [hlr, hlc]
              simp [this, hdiv]
          · cases h
        · rw [if_neg hc] at h; cases h
      · cases h
    · cases h
end
end Go.Proofs.Ytjkfleibnojjaaa
end
