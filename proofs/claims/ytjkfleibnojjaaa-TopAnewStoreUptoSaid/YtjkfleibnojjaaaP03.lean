/- Part 3 of 23 of the proof that the law TopAnewStore returns true and leaves its argument as it read before, for every input that the bounded statement admits (what it reads is of bulk at most 1048576). -/
import Derived.Test.YtjkfleibnojjaaaP02
section
namespace Go.Proofs.Ytjkfleibnojjaaa
open Go

def dstOf (ops : Array Oper) (j : Nat) : Option Tmp := (ops[j]?).bind (·.dst)
def putE (ops : Array Oper) : Nat → List Ent → CA → CA
  | _, [], a => a
  | i, e :: E, a => putE ops (i + 1) E (a.put (dstOf ops i) e.v)
theorem putE_append (ops : Array Oper) : ∀ (E : List Ent) (i : Nat) (a : CA) (e : Ent), putE ops i (E ++ [e]) a = (putE ops i E a).put (dstOf ops (i + E.length)) e.v
  | [], i, a, e => by simp [putE]
  | e0 :: E, i, a, e => by
    simp only [List.cons_append, putE]
    rw [putE_append ops E (i + 1) _ e, show i + 1 + E.length = i + (e0 :: E).length from by simp; omega]
theorem putE_n (ops : Array Oper) : ∀ (E : List Ent) (i : Nat) (a : CA), (putE ops i E a).n = a.n
  | [], _, _ => rfl
  | e :: E, i, a => by simp only [putE]; rw [putE_n ops E, put_n]
theorem putE_ds (ops : Array Oper) : ∀ (E : List Ent) (i : Nat) (a : CA), (putE ops i E a).ds = a.ds
  | [], _, _ => rfl
  | e :: E, i, a => by simp only [putE]; rw [putE_ds ops E, put_ds]
/-- The last writer's value. -/
theorem putE_ρ (ops : Array Oper) : ∀ (E : List Ent) (i : Nat) (a : CA) (t : Nat),
    (∃ (k : Nat) (e : Ent), E[k]? = some e ∧ dstOf ops (i + k) = some t ∧ (putE ops i E a).ρ t = e.v) ∨ ((∀ (k : Nat), k < E.length → ¬ (dstOf ops (i + k) = some t)) ∧ (putE ops i E a).ρ t = a.ρ t)
  | [], i, a, t => .inr ⟨fun k h => by simp at h, rfl⟩
  | e :: E, i, a, t => by
    simp only [putE]
    rcases putE_ρ ops E (i + 1) (a.put (dstOf ops i) e.v) t with ⟨k, e', h1, h2, h4⟩ | ⟨h1, h2⟩
    · refine .inl ⟨k + 1, e', by simpa using h1, by rw [← Nat.add_assoc, Nat.add_right_comm]; exact h2, h4⟩
    · by_cases c : dstOf ops i = some t
      · exact .inl ⟨0, e, rfl, c, by rw [h2, put_ρ, if_pos c]⟩
      · refine .inr ⟨fun k hk => ?_, by rw [h2, put_ρ, if_neg c]⟩
        cases k with
        | zero => exact c
        | succ k =>
          have := h1 k (by simpa using hk)
          rw [show i + (k + 1) = i + 1 + k from by omega]; exact this

section
variable {P : Program} {r : Option Nat} {ops : Array Oper}

def selJ (ops : Array Oper) (j : Nat) : Nat → Bool := fun i => (preM ops j).testBit i
structure StepOK (P : Program) (r : Option Nat) (ops : Array Oper) (m0 : CM) (a0 : CA) (LI : List (Nat × Nat)) (E : List Ent) (W : List (Nat × Nat × CB)) (j : Nat) (e : Ent) (o : Oper) : Prop where
  op : ops[j]? = some o
  run : (cguard ops o (putE ops 0 (E.take j) a0) = some false ∧ e.v = undef ∧ e.m = none ∧ ∀ t ∈ W, t.1 ≠ j) ∨
    (cguard ops o (putE ops 0 (E.take j) a0) = some true ∧ ∃ V m', OpVal P r o (maskA (putE ops 0 (E.take j) a0) (looks ops o)) V e.v m' ∧
      ((memFree o.op = false ∧ rdTmp o.op = none ∧ V = memL m0 (E.take j) W (selJ ops j) e.lo) ∨ (memFree o.op = true ∧ V.next = e.lo ∧ ∀ b, V.get b = none) ∨
        (∃ u c oo, rdTmp o.op = some u ∧ (putE ops 0 (E.take j) a0).ρ u = .pointer (some ⟨c, oo, none⟩) ∧ V.next = e.lo ∧ (∀ b, b ≠ c → V.get b = none) ∧ V.get c = (memL m0 (E.take j) W (selJ ops j) e.lo).get c)) ∧
      (((∀ t ∈ W, t.1 ≠ j) ∧ (match e.m with | none => m'.next = e.lo ∧ ∀ b, m'.get b = V.get b | some mm => m' = mm ∧ V.le mm)) ∨
       (∃ b x i, (j, b, x) ∈ W ∧ (∀ t ∈ W, t.1 = j → t = (j, b, x)) ∧ e.m = none ∧ lookN LI j = some i ∧ ((i ≠ j ∧ ∃ f, E[i]? = some f ∧ f.lo ≤ b ∧ b < f.hi) ∨ (i = j ∧ b < m0.next ∧ (∃ z, m0.get b = some z ∧ z.own = true) ∧ apartL ((lateT ops j).map (putE ops 0 (E.take j) a0).ρ) b)) ∧ x.own = true ∧ m'.next = e.lo ∧ m'.get b = some x ∧ (∃ z, V.get b = some z ∧ z.own = true) ∧
          (memFree o.op = false ∧ rdTmp o.op = none) ∧ ∀ c, c ≠ b → m'.get c = V.get c)))

theorem layW_append (sel : Nat → Bool) : ∀ (W : List (Nat × Nat × CB)) (t : Nat × Nat × CB) (M : CM), sel t.1 = false → layW sel (W ++ [t]) M = layW sel W M
  | [], t, M, h => by simp [layW, lay1, h]
  | u :: W, t, M, h => by simp only [List.cons_append, layW]; exact layW_append sel W t _ h
theorem memL_append {E : List Ent} {W : List (Nat × Nat × CB)} {t : Nat × Nat × CB} {m0 : CM} {sel : Nat → Bool} {nx : Nat} (h : sel t.1 = false) : memL m0 E (W ++ [t]) sel nx = memL m0 E W sel nx := layW_append sel W t _ h
theorem StepOK.more {m0 : CM} {a0 : CA} {LI : List (Nat × Nat)} {E : List Ent} {W : List (Nat × Nat × CB)} {j : Nat} {e : Ent} {o : Oper} (h : StepOK P r ops m0 a0 LI E W j e o) (hj : j < E.length) (en : Ent) : StepOK P r ops m0 a0 LI (E ++ [en]) W j e o := by
  have ht : (E ++ [en]).take j = E.take j := by rw [List.take_append_of_le_length (by omega)]
  refine ⟨h.op, ?_⟩
  rw [ht]
  rcases h.run with h1 | ⟨h1, V, m', h2, hV, h3⟩
  · exact .inl h1
  · refine .inr ⟨h1, V, m', h2, hV, ?_⟩
    rcases h3 with h3 | ⟨b, x, i, g1, g2, g3, g4, ⟨g0, f, g5, g5'⟩ | g5, g6⟩
    · exact .inl h3
    · exact .inr ⟨b, x, i, g1, g2, g3, g4, .inl ⟨g0, f, by rw [List.getElem?_append_left (List.getElem?_eq_some_iff.1 g5).1]; exact g5, g5'⟩, g6⟩
    · exact .inr ⟨b, x, i, g1, g2, g3, g4, .inr g5, g6⟩
theorem StepOK.moreW {m0 : CM} {a0 : CA} {LI : List (Nat × Nat)} {E : List Ent} {W : List (Nat × Nat × CB)} {j : Nat} {e : Ent} {o : Oper} (h : StepOK P r ops m0 a0 LI E W j e o) (t : Nat × Nat × CB) (ht : selJ ops j t.1 = false) (hne : t.1 ≠ j) : StepOK P r ops m0 a0 LI E (W ++ [t]) j e o := by
  have hm := memL_append (m0 := m0) (E := E.take j) (W := W) (t := t) (sel := selJ ops j) (nx := e.lo) ht
  have hno : (∀ u ∈ W, u.1 ≠ j) → ∀ u ∈ W ++ [t], u.1 ≠ j := by
    intro h u hu
    simp only [List.mem_append, List.mem_singleton] at hu
    rcases hu with hu | rfl
    · exact h u hu
    · exact hne
  refine ⟨h.op, ?_⟩
  rw [hm]
  rcases h.run with ⟨h1, h2, h3, h4⟩ | ⟨h1, V, m', h2, hV, h3⟩
  · exact .inl ⟨h1, h2, h3, hno h4⟩
  · refine .inr ⟨h1, V, m', h2, hV, ?_⟩
    rcases h3 with ⟨h3, h4⟩ | ⟨b, x, i, g1, g2, g3⟩
    · exact .inl ⟨hno h3, h4⟩
    · refine .inr ⟨b, x, i, by simp [g1], fun u hu he => ?_, g3⟩
      simp only [List.mem_append, List.mem_singleton] at hu
      rcases hu with hu | rfl
      · exact g2 u hu he
      · exact absurd he hne

theorem opw_still {o : Op} {a : CA} {m : CM} {K : Value → CM → Prop} {Kp : List PanicEntry → CM → Prop} (hs : still o = true) (h : opw P o a m K Kp) : opw P o a m (fun v m' => m' = m ∧ K v m') Kp := by
  have pp : ∀ {x : Option Value}, pop x m K → pop x m (fun v m' => m' = m ∧ K v m') := fun ⟨v, hv, hk⟩ => ⟨v, hv, rfl, hk⟩
  cases o with
  | move x => exact ⟨rfl, h⟩
  | assign x => exact ⟨rfl, h⟩
  | pick c x y => exact pp h
  | build t ps => exact pp h
  | load t x => exact pp h
  | nilCheck x => exact pp h
  | binOp op t x y ty => exact pp h
  | unOp op t x => exact pp h
  | convert s d x => exact pp h
  | makeInterface t x => exact pp h
  | makeFunc fn f c => exact ⟨rfl, h⟩
  | slice t x lo hi mx => exact pp h
  | fieldAddr s x f => exact pp h
  | field t x f => exact pp h
  | indexAddr t x i => exact pp h
  | index t x i => exact pp h
  | extract x i => exact pp h
  | typeAssert x xt t ok => exact pp h
  | call c =>
    obtain ⟨callee, xs, ts⟩ := c
    cases callee with
    | builtin b =>
      have hlen : opw P (.call { callee := .builtin .len, args := xs, argTypes := ts }) a m K Kp → opw P (.call { callee := .builtin .len, args := xs, argTypes := ts }) a m (fun v m' => m' = m ∧ K v m') Kp := by
        intro h
        simp only [opw] at h ⊢
        generalize ts.toList = tl at h ⊢
        generalize xs.toList.map a.ev = al at h ⊢
        cases tl with
        | nil => exact h.elim
        | cons t tl =>
          cases al with
          | nil => exact h.elim
          | cons x al =>
            cases al with
            | nil => exact pp h
            | cons _ _ => exact h.elim
      cases b <;> simp [still] at hs <;> first | exact hlen h | exact pp h
    | value f => simp [still] at hs
    | invoke x n => simp [still] at hs
  | _ => simp [still] at hs

theorem opw_val {o : Oper} {a : CA} {m : CM} {K : Value → CM → Prop} (hok : opOk o.op = true) (h : opw P o.op a m K (fun _ _ => False)) : ∃ v m', OpVal P r o a m v m' ∧ K v m' := by
  rcases opw_sound (r := r) (o := o) hok h with ⟨v, m', h1, h2⟩ | ⟨_, _, _, h2⟩
  · exact ⟨v, m', h1, h2⟩
  · exact h2.elim

theorem opw_free {o : Op} {a : CA} {m : CM} {K : Value → Prop} (hs : memFree o = true) (h : opw P o a m (fun v _ => K v) (fun _ _ => False)) (m' : CM) : opw P o a m' (fun v m2 => m2 = m' ∧ K v) (fun _ _ => False) := by
  have pp : ∀ {x : Option Value}, pop x m (fun v _ => K v) → pop x m' (fun v m2 => m2 = m' ∧ K v) := fun ⟨v, hv, hk⟩ => ⟨v, hv, rfl, hk⟩
  cases o with
  | move x => exact ⟨rfl, h⟩
  | assign x => exact ⟨rfl, h⟩
  | pick c x y => exact pp h
  | build t ps => exact pp h
  | nilCheck x => exact pp h
  | binOp op t x y ty => exact pp h
  | unOp op t x => exact pp h
  | convert s d x => exact pp h
  | makeInterface t x => exact pp h
  | makeFunc fn f c => exact ⟨rfl, h⟩
  | fieldAddr s x f => exact pp h
  | field t x f => exact pp h
  | indexAddr t x i => exact pp h
  | index t x i => exact pp h
  | extract x i => exact pp h
  | typeAssert x xt t ok => exact pp h
  | _ => simp [memFree] at hs
theorem rd_load {o : Op} {u : Tmp} (h : rdTmp o = some u) : ∃ t, o = .load t (.tmp u) := by
  unfold rdTmp at h
  split at h
  · cases h; exact ⟨_, rfl⟩
  · cases h
theorem rd_still {o : Op} {u : Tmp} (h : rdTmp o = some u) : still o = true ∧ memFree o = false := by
  obtain ⟨t, rfl⟩ := rd_load h; exact ⟨rfl, rfl⟩
theorem free_still {o : Op} (h : memFree o = true) : still o = true := by cases o <;> simp_all [memFree, still]
theorem memL_low_ne {E : List Ent} {m0 : CM} {N b : Nat} {sel : Nat → Bool} {nx : Nat} (hc : Chain m0.next E N) (hb : b < m0.next) : ∀ {W : List (Nat × Nat × CB)}, (∀ t ∈ W, t.2.1 ≠ b) → (memL m0 E W sel nx).get b = m0.get b := by
  have key : ∀ (W : List (Nat × Nat × CB)) (M : CM), (∀ t ∈ W, t.2.1 ≠ b) → (layW sel W M).get b = M.get b := by
    intro W
    induction W with
    | nil => intro M _; rfl
    | cons t W ih =>
      intro M h
      simp only [layW]
      rw [ih _ fun u hu => h u (by simp [hu])]
      unfold lay1
      have hne := h t (by simp)
      split
      · split
        · rw [CM.get_put, if_neg (Ne.symm hne)]
        · rfl
      · rfl
  intro W h
  unfold memL
  rw [key W _ h]
  exact get_overL_low sel E 0 _ _ _ b hc hb

/-- The plain run as a list of what each operation gives. -/
theorem drawGo_trace {m0 : CM} {a0 : CA} {LI : List (Nat × Nat)} {K : CA → CM → Prop} (hok : ∀ (j : Nat) (o : Oper), ops[j]? = some o → opOk o.op = true) (hlow : ∀ (j i : Nat), j < ops.size → selJ ops j i = true → i < j) :
    ∀ (k : Nat) (E : List Ent) (W : List (Nat × Nat × CB)) (a : CA) (nx : Nat), drawGo P ops m0 LI K k E W a nx →
    Chain m0.next E nx → a = putE ops 0 E a0 → (∀ (j : Nat) (e : Ent), E[j]? = some e → ∃ o, StepOK P r ops m0 a0 LI E W j e o) → (∀ t ∈ W, t.1 < E.length) → W.Pairwise (fun t u => t.2.1 ≠ u.2.1) →
    ∃ (E' : List Ent) (W' : List (Nat × Nat × CB)) (nx' : Nat), E'.length = E.length + k ∧ Chain m0.next E' nx' ∧ (∀ (j : Nat) (e : Ent), E'[j]? = some e → ∃ o, StepOK P r ops m0 a0 LI E' W' j e o) ∧ (∀ t ∈ W', t.1 < E'.length) ∧ W'.Pairwise (fun t u => t.2.1 ≠ u.2.1) ∧
      K (putE ops 0 E' a0) (memL m0 E' W' (fun _ => true) nx')
  | 0, E, W, a, nx, h, hc, ha, hs, hw, hp => ⟨E, W, nx, rfl, hc, hs, hw, hp, by rw [← ha]; exact h⟩
  | k + 1, E, W, a, nx, h, hc, ha, hs, hw, hp => by
    simp only [drawGo] at h
    cases ho : ops[E.length]? with
    | none => simp [ho] at h
    | some o =>
      simp only [ho] at h
      have hokj := hok _ _ ho
      have hjs : E.length < ops.size := (Array.getElem?_eq_some_iff.1 ho).1
      have chain' : ∀ (e : Ent), e.lo = nx → nx ≤ e.hi → Chain m0.next (E ++ [e]) e.hi := by
        intro e h1 h2
        have : ∀ (E : List Ent) (n : Nat), Chain n E nx → Chain n (E ++ [e]) e.hi := by
          intro E
          induction E with
          | nil => intro n hc; cases hc; exact ⟨h1, h2, rfl⟩
          | cons x E ih => intro n hc; exact ⟨hc.1, hc.2.1, ih _ hc.2.2⟩
        exact this E _ hc
      have htk : ∀ e : Ent, (E ++ [e]).take E.length = E := fun e => by simp
      have hwne : ∀ t ∈ W, t.1 ≠ E.length := fun t ht => Nat.ne_of_lt (hw t ht)
      have goW : ∀ (e : Ent) (W2 : List (Nat × Nat × CB)), e.lo = nx → nx ≤ e.hi → (∀ (j : Nat) (e' : Ent), E[j]? = some e' → ∃ o, StepOK P r ops m0 a0 LI (E ++ [e]) W2 j e' o) → (∀ t ∈ W2, t.1 < E.length + 1) → W2.Pairwise (fun t u => t.2.1 ≠ u.2.1) →
          StepOK P r ops m0 a0 LI (E ++ [e]) W2 E.length e o → drawGo P ops m0 LI K k (E ++ [e]) W2 (a.put o.dst e.v) e.hi →
          ∃ (E' : List Ent) (W' : List (Nat × Nat × CB)) (nx' : Nat), E'.length = E.length + (k + 1) ∧ Chain m0.next E' nx' ∧ (∀ (j : Nat) (e : Ent), E'[j]? = some e → ∃ o, StepOK P r ops m0 a0 LI E' W' j e o) ∧ (∀ t ∈ W', t.1 < E'.length) ∧ W'.Pairwise (fun t u => t.2.1 ≠ u.2.1) ∧
            K (putE ops 0 E' a0) (memL m0 E' W' (fun _ => true) nx') := by
        intro e W2 h1 h2 hs2 hw2 hp2 hst hk
        obtain ⟨E', W', nx', hl, hc', hs', hw', hp', hK⟩ := drawGo_trace hok hlow k (E ++ [e]) W2 _ e.hi hk (chain' e h1 h2) (by
          rw [putE_append, ← ha]; simp [dstOf, ho]) (fun j e' hj => by
          by_cases c : j < E.length
          · rw [List.getElem?_append_left c] at hj
            exact hs2 j e' hj
          · have hlt := (List.getElem?_eq_some_iff.1 hj).1
            simp at hlt
            have : j = E.length := by omega
            subst this
            rw [List.getElem?_append_right (Nat.le_refl _)] at hj
            simp at hj; subst hj
            exact ⟨o, hst⟩) (by simpa using hw2) hp2
        exact ⟨E', W', nx', by rw [hl]; simp; omega, hc', hs', hw', hp', hK⟩
      have go : ∀ (e : Ent), e.lo = nx → nx ≤ e.hi → StepOK P r ops m0 a0 LI (E ++ [e]) W E.length e o → drawGo P ops m0 LI K k (E ++ [e]) W (a.put o.dst e.v) e.hi → _ :=
        fun e h1 h2 hst hk => goW e W h1 h2 (fun j e' hj => let ⟨o', ho'⟩ := hs j e' hj; ⟨o', ho'.more (List.getElem?_eq_some_iff.1 hj).1 e⟩) (fun t ht => Nat.lt_succ_of_lt (hw t ht)) hp hst hk
      cases hlk : lookN LI E.length with
      | some i =>
        simp only [hlk] at h
        cases hgu : o.guard with
        | some g => simp only [hgu] at h
        | none =>
          simp only [hgu] at h
          have hcg : cguard ops o a = some true := by simp [cguard, hgu]
          unfold drawOpL at h
          split at h
          · rename_i t x y hop
            obtain ⟨m', b, off, z, hst, hpx, hz, hff, hdis, hk⟩ := h
            have hput : ∃ z', m' = (memL m0 E W (fun i => Nat.testBit (preM ops E.length) i) nx).put b z' ∧ z'.own = true ∧ ∃ z0, (memL m0 E W (fun i => Nat.testBit (preM ops E.length) i) nx).get b = some z0 ∧ z0.own = true := by
              rw [hpx] at hst
              simp only [cstore] at hst
              split at hst
              · unfold cstoreL at hst
                split at hst
                · rename_i c esz hg
                  split at hst
                  · cases hst; exact ⟨_, rfl, rfl, _, hg, rfl⟩
                  · cases hst
                · cases hst
              · cases hst
            obtain ⟨z', rfl, hzown, z0, hz0, hown⟩ := hput
            have hzz : z' = z := by rw [CM.get_put, if_pos rfl] at hz; exact Option.some.inj hz
            subst hzz
            obtain ⟨v, m2, hv, hm2⟩ := opw_val (r := r) (K := fun v m2 => v = undef ∧ m2 = (memL m0 E W (fun i => Nat.testBit (preM ops E.length) i) nx).put b z') hokj (by
              rw [hop]
              exact ⟨_, hst, rfl, rfl⟩)
            obtain ⟨rfl, rfl⟩ := hm2
            have hselE : selJ ops E.length E.length = false := by
              cases hh : selJ ops E.length E.length with
              | false => rfl
              | true => have := hlow _ _ hjs hh; omega
            refine goW ⟨undef, nx, none⟩ (W ++ [(E.length, b, z')]) rfl (Nat.le_refl _) (fun j e' hj => ?_) (fun t ht => ?_) ?_ ⟨ho, ?_⟩ hk
            · obtain ⟨o', ho'⟩ := hs j e' hj
              have hjl := (List.getElem?_eq_some_iff.1 hj).1
              have hjs' : j < ops.size := by omega
              refine ⟨o', (ho'.more hjl _).moreW _ ?_ (by simp; omega)⟩
              cases hh : selJ ops j E.length with
              | false => rfl
              | true => have := hlow _ _ hjs' hh; omega
            · simp only [List.mem_append, List.mem_singleton] at ht
              rcases ht with ht | rfl
              · exact Nat.lt_succ_of_lt (hw t ht)
              · simp
            · refine List.pairwise_append.2 ⟨hp, by simp, fun t ht u hu => ?_⟩
              simp only [List.mem_singleton] at hu; subst hu
              exact hdis t ht
            · have hm := memL_append (m0 := m0) (E := E) (W := W) (t := (E.length, b, z')) (sel := selJ ops E.length) (nx := nx) hselE
              rw [htk, ← ha, hm]
              have hmf : memFree o.op = false := by rw [hop]; rfl
              have hrd : rdTmp o.op = none := by rw [hop]; rfl
              refine .inr ⟨hcg, _, _, hv, .inl ⟨hmf, hrd, rfl⟩, .inr ⟨b, z', i, by simp, fun t ht he => ?_, rfl, hlk, ?_, hzown, ?_, ?_, ⟨z0, hz0, hown⟩, ⟨hmf, hrd⟩, fun c hc => ?_⟩⟩
              · simp only [List.mem_append, List.mem_singleton] at ht
                rcases ht with ht | rfl
                · exact absurd he (hwne t ht)
                · rfl
              · cases hbe : Nat.beq i E.length with
                | true =>
                  simp only [hbe] at hff
                  refine .inr ⟨Nat.eq_of_beq_eq_true hbe, hff.1, ⟨z0, ?_, hown⟩, hff.2⟩
                  rw [← memL_low_ne hc hff.1 hdis]; exact hz0
                | false =>
                  simp only [hbe] at hff
                  obtain ⟨f, hf, hf1, hf2⟩ := hff
                  have hlt := (List.getElem?_eq_some_iff.1 hf).1
                  exact .inl ⟨by omega, f, by rw [List.getElem?_append_left hlt]; exact hf, hf1, hf2⟩
              · show (memL m0 E W _ nx).next = nx
                unfold memL; rw [layW_next]; rfl
              · rw [CM.get_put, if_pos rfl]
              · rw [CM.get_put, if_neg hc]
          · exact h.elim
      | none =>
        simp only [hlk] at h
        have hJ : (fun i => Nat.testBit (preM ops E.length) i) = selJ ops E.length := rfl
        split at h
        · rename_i hss
          replace h : match cguard ops o a with
              | some true => drawOpS P o.op (maskA a (looks ops o)) (memL m0 E W (fun i => Nat.testBit (preM ops E.length) i) nx) nx (fun v => drawGo P ops m0 LI K k (E ++ [⟨v, nx, none⟩]) W (a.put o.dst v) nx)
              | some false => drawGo P ops m0 LI K k (E ++ [⟨undef, nx, none⟩]) W (a.put o.dst undef) nx
              | none => False := by
            unfold cguard
            cases hgu : o.guard with
            | none => simp only [hgu] at h ⊢; exact h
            | some jw =>
              obtain ⟨j, want⟩ := jw
              simp only [hgu] at h ⊢
              cases hd : (ops[j]?).bind (·.dst) with
              | none => simp only [hd] at h
              | some d => simp only [hd] at h ⊢; exact h.h
          cases hg : cguard ops o a with
          | none => simp only [hg] at h
          | some g =>
            simp only [hg] at h
            cases g with
            | false =>
              exact go ⟨undef, nx, none⟩ rfl (Nat.le_refl _) ⟨ho, by rw [htk, ← ha]; exact .inl ⟨hg, rfl, rfl, hwne⟩⟩ h
            | true =>
              simp only [drawOpS] at h
              by_cases hst : still o.op = true
              · simp only [hst] at h
                cases hmf : memFree o.op with
                | true =>
                  obtain ⟨v, m', hv, hm', hk⟩ := opw_val (r := r) hokj (opw_free hmf h ⟨.nil, nx⟩)
                  refine go ⟨v, nx, none⟩ rfl (Nat.le_refl _) ⟨ho, ?_⟩ hk
                  rw [htk, ← ha]
                  refine .inr ⟨hg, _, m', hv, .inr (.inl ⟨hmf, rfl, fun b => by simp [CM.get, T.get]⟩), .inl ⟨hwne, ?_⟩⟩
                  rw [hm']; exact ⟨rfl, fun _ => rfl⟩
                | false =>
                cases hrd : rdTmp o.op with
                | some u =>
                  obtain ⟨tt, hop⟩ := rd_load hrd
                  rw [hop] at h
                  obtain ⟨v, hv0, hk⟩ := h
                  have hlk' : (looks ops o).contains u = true := by
                    have : u ∈ looks ops o := by
                      unfold looks Oper.looksAt
                      rw [hop]
                      simp [Op.operands]
                    simpa using this
                  have hev : (maskA a (looks ops o)).ev (.tmp u) = a.ρ u := by
                    show (if (looks ops o).contains u = true then a.ρ u else undef) = a.ρ u
                    rw [if_pos hlk']
                  have hp : ∃ c oo, a.ρ u = .pointer (some ⟨c, oo, none⟩) := by
                    rw [hev] at hv0
                    unfold cload at hv0
                    split at hv0
                    · exact ⟨_, _, by assumption⟩
                    · cases hv0
                  obtain ⟨c, oo, hp⟩ := hp
                  have hVg : ((⟨.nil, nx⟩ : CM).set c ((memL m0 E W (fun i => Nat.testBit (preM ops E.length) i) nx).get c)).get c = (memL m0 E W (fun i => Nat.testBit (preM ops E.length) i) nx).get c := by rw [CM.get_set, if_pos rfl]
                  obtain ⟨v', m', hv, hm', hk'⟩ := opw_val (r := r) (K := fun v m2 => m2 = (⟨.nil, nx⟩ : CM).set c ((memL m0 E W (fun i => Nat.testBit (preM ops E.length) i) nx).get c) ∧ drawGo P ops m0 LI K k (E ++ [⟨v, nx, none⟩]) W (a.put o.dst v) nx) (a := maskA a (looks ops o)) (m := (⟨.nil, nx⟩ : CM).set c ((memL m0 E W (fun i => Nat.testBit (preM ops E.length) i) nx).get c)) hokj (by
                    rw [hop]
                    refine ⟨v, ?_, rfl, hk⟩
                    rw [hev, hp] at hv0 ⊢
                    simp only [cload, hVg] at hv0 ⊢
                    exact hv0)
                  refine go ⟨v', nx, none⟩ rfl (Nat.le_refl _) ⟨ho, ?_⟩ hk'
                  rw [htk, ← ha]
                  refine .inr ⟨hg, _, m', hv, .inr (.inr ⟨u, c, oo, hrd, hp, rfl, fun b hb => ?_, hVg⟩), .inl ⟨hwne, ?_⟩⟩
                  · rw [CM.get_set, if_neg hb]; simp [CM.get, T.get]
                  · rw [hm']; exact ⟨rfl, fun _ => rfl⟩
                | none =>
                  obtain ⟨v, m', hv, hm', hk⟩ := opw_val (r := r) hokj (opw_still hst h)
                  refine go ⟨v, nx, none⟩ rfl (Nat.le_refl _) ⟨ho, ?_⟩ hk
                  rw [htk, ← ha]
                  refine .inr ⟨hg, _, m', hv, .inl ⟨hmf, hrd, rfl⟩, .inl ⟨hwne, ?_⟩⟩
                  rw [hm']; exact ⟨by unfold memL; rw [layW_next]; rfl, fun _ => rfl⟩
              · have hst' : still o.op = false := by simpa using hst
                simp only [hst'] at h
                have hmf : memFree o.op = false := by
                  cases hmf : memFree o.op with
                  | false => rfl
                  | true => exact absurd (free_still hmf) hst
                have hrd : rdTmp o.op = none := by
                  cases hrd : rdTmp o.op with
                  | none => rfl
                  | some u => exact absurd (rd_still hrd).1 hst
                obtain ⟨v, m', hv, hm', hk⟩ := opw_val (r := r) hokj h
                exact go ⟨v, nx, none⟩ rfl (Nat.le_refl _) ⟨ho, by
                  rw [htk, ← ha]; exact .inr ⟨hg, _, m', hv, .inl ⟨hmf, hrd, rfl⟩, .inl ⟨hwne, hm'⟩⟩⟩ hk
        · replace h : match cguard ops o a with
              | some true => drawOpA P o.op (maskA a (looks ops o)) (memL m0 E W (fun i => Nat.testBit (preM ops E.length) i) nx) (fun v eo nx' => drawGo P ops m0 LI K k (E ++ [⟨v, nx, eo⟩]) W (a.put o.dst v) nx')
              | some false => drawGo P ops m0 LI K k (E ++ [⟨undef, nx, none⟩]) W (a.put o.dst undef) nx
              | none => False := by
            unfold cguard
            cases hgu : o.guard with
            | none => simp only [hgu] at h ⊢; exact h
            | some jw =>
              obtain ⟨j, want⟩ := jw
              simp only [hgu] at h ⊢
              cases hd : (ops[j]?).bind (·.dst) with
              | none => simp only [hd] at h
              | some d => simp only [hd] at h ⊢; exact h.h
          cases hg : cguard ops o a with
          | none => simp only [hg] at h
          | some g =>
            simp only [hg] at h
            cases g with
            | false =>
              exact go ⟨undef, nx, none⟩ rfl (Nat.le_refl _) ⟨ho, by rw [htk, ← ha]; exact .inl ⟨hg, rfl, rfl, hwne⟩⟩ h
            | true =>
              simp only [drawOpA] at h
              have hmf : memFree o.op = false := by
                cases hmf : memFree o.op with
                | false => rfl
                | true => rename_i hns; rw [free_still hmf] at hns; cases hns
              have hrd : rdTmp o.op = none := by
                cases hrd : rdTmp o.op with
                | none => rfl
                | some u => rename_i hns; rw [(rd_still hrd).1] at hns; cases hns
              obtain ⟨v, m', hv, hm', hk⟩ := opw_val (r := r) hokj h
              have hnx' : nx ≤ m'.next := by have := hm'.1; unfold memL at this; rw [layW_next] at this; exact this
              exact go ⟨v, nx, some m'⟩ rfl hnx' ⟨ho, by
                rw [htk, ← ha]; exact .inr ⟨hg, _, m', hv, .inl ⟨hmf, hrd, rfl⟩, .inl ⟨hwne, rfl, hm'⟩⟩⟩ hk

/-! ### What the check of the order gives -/
structure Ord (ops : Array Oper) (N1 : Nat) : Prop where
  le : N1 ≤ ops.size
  edge : ∀ (j : Nat) (o : Oper), ops[j]? = some o → ∀ e ∈ o.after.toList, Region.binds .any e = true → e.on < j ∧ (preM ops j).testBit e.on = true ∧ ∀ i, (preM ops e.on).testBit i = true → (preM ops j).testBit i = true
  src : ∀ (j : Nat) (o : Oper), ops[j]? = some o → ∀ i, (preM ops j).testBit i = true → ∃ e ∈ o.after.toList, Region.binds .any e = true ∧ (i = e.on ∨ (preM ops e.on).testBit i = true)
  low : ∀ (j : Nat), j < ops.size → ∀ i, (preM ops j).testBit i = true → i < j
  tail : ∀ (j : Nat), j < ops.size → N1 ≤ j → ∀ i, i < j → (preM ops j).testBit i = true
  trans : ∀ (j : Nat), j < ops.size → ∀ i k, (preM ops j).testBit i = true → (preM ops i).testBit k = true → (preM ops j).testBit k = true
  plain : ∀ (j : Nat) (o : Oper), ops[j]? = some o → (∀ cs b, o.op ≠ .select cs b) ∧ (∀ c, o.op ≠ .defer c) ∧ opOk o.op = true
  uniq : ∀ (j k : Nat) (d : Tmp), j < ops.size → k < ops.size → dstOf ops j = some d → dstOf ops k = some d → j = k
  look : ∀ (j : Nat) (o : Oper), ops[j]? = some o → ∀ u ∈ looks ops o, ∀ k, k < ops.size → k ≠ j → dstOf ops k = some u → (preM ops k).testBit j = true ∨ (preM ops j).testBit k = true

theorem foldOr_testBit (f : Edge → Bool) (g : Edge → Nat) : ∀ (l : List Edge) (s : Nat) (i : Nat), (l.foldl (fun s e => if f e then s ||| 2 ^ e.on ||| g e else s) s).testBit i = true ↔ s.testBit i = true ∨ ∃ e ∈ l, f e = true ∧ (i = e.on ∨ (g e).testBit i = true)
  | [], s, i => by simp
  | e :: l, s, i => by
    simp only [List.foldl_cons]
    rw [foldOr_testBit f g l]
    by_cases hf : f e = true
    · rw [if_pos hf]
      simp only [Nat.testBit_or, Bool.or_eq_true, Nat.testBit_two_pow, decide_eq_true_eq]
      constructor
      · intro h0
        rcases h0 with ((h | h) | h) | ⟨x, hx, h⟩
        · exact .inl h
        · exact .inr ⟨e, List.mem_cons_self .., hf, .inl h.symm⟩
        · exact .inr ⟨e, List.mem_cons_self .., hf, .inr h⟩
        · exact .inr ⟨x, List.mem_cons_of_mem _ hx, h⟩
      · intro h0
        rcases h0 with h | ⟨x, hx, h1, h2⟩
        · exact .inl (.inl (.inl h))
        · cases hx with
          | head => exact h2.elim (fun h2 => .inl (.inl (.inr h2.symm))) (fun h2 => .inl (.inr h2))
          | tail _ hx => exact .inr ⟨x, hx, h1, h2⟩
    · rw [if_neg hf]
      constructor
      · intro h0
        rcases h0 with h | ⟨x, hx, h⟩
        · exact .inl h
        · exact .inr ⟨x, List.mem_cons_of_mem _ hx, h⟩
      · intro h0
        rcases h0 with h | ⟨x, hx, h1, h2⟩
        · exact .inl h
        · cases hx with
          | head => exact absurd h1 hf
          | tail _ hx => exact .inr ⟨x, hx, h1, h2⟩

theorem ord_of {N1 : Nat} (h : drawOk ops N1 = true) : Ord ops N1 := by
  unfold drawOk at h
  simp only [Bool.and_eq_true, decide_eq_true_eq, List.all_eq_true, List.mem_range] at h
  obtain ⟨hle, hall⟩ := h
  have hj : ∀ (j : Nat) (o : Oper), ops[j]? = some o → j < ops.size := fun j o ho => (Array.getElem?_eq_some_iff.1 ho).1
  have get : ∀ (j : Nat), j < ops.size → ∃ o, ops[j]? = some o := fun j h => ⟨ops[j], Array.getElem?_eq_getElem h⟩
  have key : ∀ (j : Nat) (o : Oper), ops[j]? = some o → _ := fun j o ho => by
    have := hall j (hj j o ho)
    simp only [ho] at this
    simpa only [Bool.and_eq_true, List.all_eq_true, Bool.or_eq_true, Bool.not_eq_true', decide_eq_true_eq, beq_iff_eq, List.mem_range] using this
  refine ⟨hle, fun j o ho e he hb => ?_, fun j o ho i hi => ?_, fun j hjs i hi => ?_, fun j hjs hN i hi => ?_, fun j hjs i k hi hk => ?_, fun j o ho => ?_, fun j k d hjs hks hdj hdk => ?_, fun j o ho u hu k hks hne hdk => ?_⟩
  · obtain ⟨⟨⟨⟨⟨⟨⟨⟨h1, h2⟩, h3⟩, h4⟩, h5⟩, h6⟩, h7⟩, h8⟩, h9⟩ := key j o ho
    have hlt := (h1 e he).resolve_left (by simp [hb])
    have hf := foldOr_testBit (Region.binds .any) (fun e => preM ops e.on) o.after.toList 0
    refine ⟨hlt, ?_, fun i hi => ?_⟩
    · rw [h2, hf]; exact .inr ⟨e, he, hb, .inl rfl⟩
    · rw [h2, hf]; exact .inr ⟨e, he, hb, .inr hi⟩
  · obtain ⟨⟨⟨⟨⟨⟨⟨⟨h1, h2⟩, h3⟩, h4⟩, h5⟩, h6⟩, h7⟩, h8⟩, h9⟩ := key j o ho
    rw [h2, foldOr_testBit (Region.binds .any) (fun e => preM ops e.on)] at hi
    rcases hi with hi | ⟨e, he, hb, hh⟩
    · simp at hi
    · exact ⟨e, he, hb, hh⟩
  · obtain ⟨o, ho⟩ := get j hjs
    obtain ⟨⟨⟨⟨⟨⟨⟨⟨h1, h2⟩, h3⟩, h4⟩, h5⟩, h6⟩, h7⟩, h8⟩, h9⟩ := key j o ho
    apply Nat.lt_of_not_le; intro hc
    have : (preM ops j).testBit i = false := Nat.testBit_lt_two_pow (Nat.lt_of_lt_of_le h4 (Nat.pow_le_pow_right (by omega) hc))
    rw [this] at hi; cases hi
  · obtain ⟨o, ho⟩ := get j hjs
    obtain ⟨⟨⟨⟨⟨⟨⟨⟨h1, h2⟩, h3⟩, h4⟩, h5⟩, h6⟩, h7⟩, h8⟩, h9⟩ := key j o ho
    have := h5.resolve_left (by omega)
    rw [this, Nat.testBit_two_pow_sub_one]; simpa using hi
  · obtain ⟨o, ho⟩ := get j hjs
    obtain ⟨⟨⟨⟨⟨⟨⟨⟨h1, h2⟩, h3⟩, h4⟩, h5⟩, h6⟩, h7⟩, h8⟩, h9⟩ := key j o ho
    have hlt : i < j := by
      apply Nat.lt_of_not_le; intro hc
      have : (preM ops j).testBit i = false := Nat.testBit_lt_two_pow (Nat.lt_of_lt_of_le h4 (Nat.pow_le_pow_right (by omega) hc))
      rw [this] at hi; cases hi
    have := (h3 i hlt).resolve_left (by simp [hi])
    have h0 : (preM ops i &&& preM ops j).testBit k = true := by rw [this]; exact hk
    rw [Nat.testBit_and, Bool.and_eq_true] at h0
    exact h0.2
  · obtain ⟨⟨⟨⟨⟨⟨⟨⟨h1, h2⟩, h3⟩, h4⟩, h5⟩, h6⟩, h7⟩, h8⟩, h9⟩ := key j o ho
    exact ⟨fun cs b e => by rw [e] at h6; simp at h6, fun c e => by rw [e] at h6; simp at h6, h7⟩
  · obtain ⟨o, ho⟩ := get j hjs
    obtain ⟨⟨⟨⟨⟨⟨⟨⟨h1, h2⟩, h3⟩, h4⟩, h5⟩, h6⟩, h7⟩, h8⟩, h9⟩ := key j o ho
    have hod : o.dst = some d := by simpa [dstOf, ho] using hdj
    rw [hod] at h8
    simp only [List.all_eq_true, List.mem_range, Bool.or_eq_true, beq_iff_eq, bne_iff_ne] at h8
    rcases h8 k hks with h | h
    · exact h.symm
    · exact absurd hdk h
  · obtain ⟨⟨⟨⟨⟨⟨⟨⟨h1, h2⟩, h3⟩, h4⟩, h5⟩, h6⟩, h7⟩, h8⟩, h9⟩ := key j o ho
    rcases h9 u hu k hks with ((h | h) | h) | h
    · exact absurd h hne
    · simp only [bne_iff_ne] at h; exact absurd hdk h
    · exact .inl h
    · exact .inr h
end
end Go.Proofs.Ytjkfleibnojjaaa
end

section
namespace Go.Proofs.Ytjkfleibnojjaaa
open Go
open Classical

noncomputable def Inj.on (ι : Inj) (S : Nat → Prop) : Inj := fun b => if S b then ι b else none
theorem Inj.on_le (ι : Inj) (S : Nat → Prop) : (ι.on S).le ι := fun b p h => by
  unfold Inj.on at h; split at h
  · exact h
  · cases h
theorem Inj.on_mono {ι ι' : Inj} {S S' : Nat → Prop} (h : ι.le ι') (hS : ∀ b, S b → S' b) : (ι.on S).le (ι'.on S') := fun b p hb => by
  unfold Inj.on at *
  by_cases c : S b
  · rw [if_pos c] at hb; rw [if_pos (hS b c)]; exact h _ _ hb
  · rw [if_neg c] at hb; cases hb
theorem Inj.on_some {ι : Inj} {S : Nat → Prop} {b : Nat} {p : Pl} (h : ι.on S b = some p) : S b ∧ ι b = some p := by
  unfold Inj.on at h; split at h
  · exact ⟨by assumption, h⟩
  · cases h
theorem Inj.on_in {ι : Inj} {S : Nat → Prop} {b : Nat} (h : S b) : ι.on S b = ι b := by unfold Inj.on; rw [if_pos h]

def maskW (aw : Act) (l : List Tmp) : Act := { aw with tmps := (Array.range aw.tmps.size).map fun t => if l.contains t then aw.tmps.getD t undef else undef }
theorem maskW_getD (aw : Act) (l : List Tmp) (t : Nat) : (maskW aw l).tmps.getD t undef = if l.contains t then aw.tmps.getD t undef else undef := by
  simp only [maskW, Array.getD_eq_getD_getElem?, Array.getElem?_map]
  by_cases h : t < aw.tmps.size
  · rw [Array.getElem?_range, if_pos h]; rfl
  · rw [Array.getElem?_range, if_neg h]
    simp only [Option.map_none, Option.getD_none]
    split
    · rw [Array.getElem?_eq_none (Nat.le_of_not_lt h)]; rfl
    · rfl
theorem maskW_get (aw : Act) (l : List Tmp) (t : Nat) (h : l.contains t = true) : (maskW aw l).tmps[t]? = aw.tmps[t]? := by
  simp only [maskW, Array.getElem?_map]
  by_cases c : t < aw.tmps.size
  · rw [Array.getElem?_range, if_pos c, Array.getElem?_eq_getElem c]
    simp only [Option.map_some, h, if_true]
    simp [Array.getD_eq_getD_getElem?, c]
  · rw [Array.getElem?_range, if_neg c, Array.getElem?_eq_none (Nat.le_of_not_lt c)]; rfl
theorem maskW_size (aw : Act) (l : List Tmp) : (maskW aw l).tmps.size = aw.tmps.size := by simp [maskW]

theorem mem_looks {ops : Array Oper} {o : Oper} {t : Tmp} (h : .tmp t ∈ o.op.operands) : (looks ops o).contains t = true := by
  have : t ∈ looks ops o := List.mem_append_left _ (List.mem_filterMap.2 ⟨.tmp t, by simpa using h, rfl⟩)
  simpa using this
theorem mask_eval {ops : Array Oper} {o : Oper} (aw : Act) (x : Operand) (h : x ∈ o.op.operands) : (maskW aw (looks ops o)).eval x = aw.eval x := by
  cases x with
  | tmp t =>
    show (maskW aw (looks ops o)).tmps.getD t undef = aw.tmps.getD t undef
    rw [maskW_getD, if_pos (mem_looks h)]
  | _ => rfl

theorem put_inj {aw aw2 : Act} (hs : aw2.tmps.size = aw.tmps.size) {d : Option Tmp} {u v : Value} (h : aw2.put d u = aw2.put d v) : aw.put d u = aw.put d v := by
  cases d with
  | none => rfl
  | some d =>
    simp only [Act.put] at h ⊢
    by_cases c : d < aw.tmps.size
    · have h1 : aw2.tmps.setIfInBounds d u = aw2.tmps.setIfInBounds d v := congrArg Act.tmps h
      have h2 := congrArg (fun (x : Array Value) => x[d]?) h1
      simp only [Array.getElem?_setIfInBounds, if_true, if_pos (by rw [hs]; exact c : d < aw2.tmps.size)] at h2
      rw [Option.some.inj h2]
    · rw [Array.setIfInBounds_eq_of_size_le (Nat.le_of_not_lt c), Array.setIfInBounds_eq_of_size_le (Nat.le_of_not_lt c)]

/-- An operation's plain meaning, where only what it looks at is related. -/
theorem OpVal.masked {P : Program} {r : Option Nat} {ops : Array Oper} {o : Oper} {aM : CA} {m m' : CM} {v : Value} (h : OpVal P r o aM m v m') (hsel : ∀ cs b, o.op ≠ .select cs b) (hdef : ∀ c, o.op ≠ .defer c)
    {ι : Inj} {w : World} {aw : Act} {F : Fence} (hr : Rel ι m w) (ha : RelA ι aM (maskW aw (looks ops o))) (hF : FR ι r F) (next : Act → World → Prop) (Q : Exit → Act → World → Prop)
    (hn : ∀ ι' w' v', ι.le ι' → Rel ι' m' w' → tr ι' v = some v' → Fr ι m w ι' m' w' → next (aw.put o.dst v') w') : o.wpIn F 0 P aw w next Q := by
  have h1 := h ι w (maskW aw (looks ops o)) F hr ha hF (fun a'' w' => (∃ v', a'' = (maskW aw (looks ops o)).put o.dst v') ∧ ∀ v', a'' = (maskW aw (looks ops o)).put o.dst v' → next (aw.put o.dst v') w') (fun _ _ _ => False) (fun ι' w' v' hle hr' ht hf => ⟨⟨v', rfl⟩, fun v'' he => by
    rw [← put_inj (maskW_size aw (looks ops o)) he]
    exact hn ι' w' v' hle hr' ht hf⟩)
  refine ⟨fun f _ => hF.fn f, ?_⟩
  have h2 := h1.2
  rw [Oper.semAt_eq _ _ _ hdef] at h2 ⊢
  rw [execOp_congr o hsel (fun x hx => mask_eval (ops := ops) aw x hx)] at h2
  generalize (execOp aw.eval o).run P w = res at h2 ⊢
  cases res with
  | halt hh w' => cases hh <;> first | exact h2.elim | (simp only [Oper.uponIn] at h2)
  | ok nx w' =>
    cases nx <;> first | exact h2.elim | skip
    all_goals first
      | exact h2.2 _ rfl
      | (refine ⟨h2.1, h2.2.mono ?_⟩
         intro e w'' he
         cases e with
         | returned v => exact he.2 _ rfl
         | panicked c => exact he.elim
         | outgrown => obtain ⟨_, _, hh⟩ := he; exact hh.elim)
      | (refine ⟨h2.1, h2.2.mono ?_⟩
         intro v w'' he
         exact he.2 _ rfl)
      | (obtain ⟨⟨v', hv'⟩, _⟩ := h2
         have := congrArg (fun (x : Act) => x.defers.length) hv'
         have hp : ∀ (a : Act) (d : Option Tmp) (v : Value), (a.put d v).defers = a.defers := by intro a d v; cases d <;> rfl
         simp [hp, maskW] at this)
end Go.Proofs.Ytjkfleibnojjaaa
end

section
namespace Go.Proofs.Ytjkfleibnojjaaa
open Go
open Classical

section
variable {P : Program} {r : Option Nat} {ops : Array Oper} {N1 N : Nat} {m0 : CM} {a0 : CA} {LI : List (Nat × Nat)} {E : List Ent} {W : List (Nat × Nat × CB)}

def inR (E : List Ent) (k b : Nat) : Prop := ∃ e, E[k]? = some e ∧ e.lo ≤ b ∧ b < e.hi
def Sj (ops : Array Oper) (m0 : CM) (E : List Ent) (j b : Nat) : Prop := b < m0.next ∨ ∃ k, selJ ops j k = true ∧ inR E k b
def Sj' (ops : Array Oper) (m0 : CM) (E : List Ent) (j b : Nat) : Prop := Sj ops m0 E j b ∨ inR E j b
def selD (l : Array Bool) : Nat → Bool := fun i => l.getD i false
def MD (m0 : CM) (E : List Ent) (W : List (Nat × Nat × CB)) (N : Nat) (l : Array Bool) : CM := memL m0 E W (selD l) N
def entG (e : Ent) (b : Nat) : Option CB := match e.m with | some y => y.get b | none => none
def inM (m0 : CM) (E : List Ent) (sel : Nat → Bool) (b : Nat) (x : CB) : Prop :=
  (b < m0.next ∧ m0.get b = some x) ∨ ∃ k e, sel k = true ∧ E[k]? = some e ∧ e.lo ≤ b ∧ b < e.hi ∧ entG e b = some x

theorem inR_uniq (hc : Chain m0.next E N) {j k b : Nat} (hj : inR E j b) (hk : inR E k b) : j = k := by
  have key : ∀ (E : List Ent) (n : Nat), Chain n E N → ∀ (j k : Nat), inR E j b → inR E k b → j = k := by
    intro E
    induction E with
    | nil => intro n _ j k hj _; obtain ⟨e, he, _⟩ := hj; simp at he
    | cons e0 E ih =>
      intro n hc j k hj hk
      obtain ⟨e, he, h1, h2⟩ := hj
      obtain ⟨f, hf, h3, h4⟩ := hk
      cases j with
      | zero =>
        cases k with
        | zero => rfl
        | succ k =>
          simp at he hf; subst he
          have := (hc.2.2.get hf).1
          omega
      | succ j =>
        cases k with
        | zero =>
          simp at he hf; subst hf
          have := (hc.2.2.get he).1
          omega
        | succ k =>
          simp at he hf
          rw [ih _ hc.2.2 j k ⟨e, he, h1, h2⟩ ⟨f, hf, h3, h4⟩]
  exact key E _ hc j k hj hk
theorem inR_ge (hc : Chain m0.next E N) {k b : Nat} (h : inR E k b) : m0.next ≤ b ∧ b < N := by
  obtain ⟨e, he, h1, h2⟩ := h
  have := hc.get he
  exact ⟨by omega, by omega⟩

theorem memJ_iff (hc : Chain m0.next E N) (h0 : ∀ b x, m0.get b = some x → b < m0.next) (sel : Nat → Bool) (nx b : Nat) (x : CB) : (memJ m0 E sel nx).get b = some x ↔ inM m0 E sel b x := by
  show (overL sel 0 E m0).get b = some x ↔ _
  constructor
  · intro h
    rcases get_overL_some sel E 0 m0 b x h with h | ⟨j, e, hj, hs, h1, h2, h3⟩
    · exact .inl ⟨h0 _ _ h, h⟩
    · exact .inr ⟨j, e, by simpa using hs, hj, h1, h2, h3⟩
  · rintro (⟨h1, h2⟩ | ⟨k, e, hs, hk, h1, h2, h3⟩)
    · rw [get_overL_low sel E 0 _ _ _ b hc h1]; exact h2
    · rw [get_overL_in sel E 0 _ _ _ b k e hc hk h1 h2, if_pos (by simpa using hs)]; exact h3

theorem Chain.take : ∀ {n : Nat} {E : List Ent} {N : Nat}, Chain n E N → ∀ {j : Nat} {e : Ent}, E[j]? = some e → Chain n (E.take j) e.lo
  | _, [], _, _, j, e, h => by simp at h
  | n, e0 :: E, N, hc, j, e, h => by
    cases j with
    | zero => simp at h; subst h; exact hc.1.symm
    | succ j => simp at h; exact ⟨hc.1, hc.2.1, hc.2.2.take h⟩

/-- What an operation looks at, told over the whole list. -/
theorem memTake_iff (hord : Ord ops N1) (hc : Chain m0.next E N) (h0 : ∀ b x, m0.get b = some x → b < m0.next) {j : Nat} {e : Ent} (he : E[j]? = some e) (hj : j < ops.size) (b : Nat) (x : CB) :
    (memJ m0 (E.take j) (selJ ops j) e.lo).get b = some x ↔ inM m0 E (selJ ops j) b x := by
  rw [memJ_iff (hc.take he) h0]
  unfold inM
  constructor
  · rintro (h | ⟨k, f, hs, hk, h1, h2, h3⟩)
    · exact .inl h
    · refine .inr ⟨k, f, hs, ?_, h1, h2, h3⟩
      rw [List.getElem?_take] at hk; split at hk
      · exact hk
      · cases hk
  · rintro (h | ⟨k, f, hs, hk, h1, h2, h3⟩)
    · exact .inl h
    · refine .inr ⟨k, f, hs, ?_, h1, h2, h3⟩
      rw [List.getElem?_take, if_pos (hord.low j hj k hs)]; exact hk

/-- What a memory with late stores holds. -/
def inL (m0 : CM) (E : List Ent) (W : List (Nat × Nat × CB)) (sel : Nat → Bool) (b : Nat) (x : CB) : Prop :=
  (∃ t ∈ W, sel t.1 = true ∧ t.2.1 = b ∧ x = t.2.2 ∧ ∃ z, inM m0 E sel b z) ∨ ((∀ t ∈ W, ¬ (sel t.1 = true ∧ t.2.1 = b)) ∧ inM m0 E sel b x)
theorem inL_inM {sel : Nat → Bool} {b : Nat} {x : CB} (h : inL m0 E W sel b x) : ∃ z, inM m0 E sel b z := by
  rcases h with ⟨_, _, _, _, _, h⟩ | ⟨_, h⟩
  · exact h
  · exact ⟨x, h⟩
theorem memL_iff (hc : Chain m0.next E N) (h0 : ∀ b x, m0.get b = some x → b < m0.next) (hp : W.Pairwise (fun t u => t.2.1 ≠ u.2.1)) (sel : Nat → Bool) (nx b : Nat) (x : CB) : (memL m0 E W sel nx).get b = some x ↔ inL m0 E W sel b x := by
  unfold memL inL
  rw [layW_get sel W _ b x hp]
  simp only [memJ_iff hc h0]
theorem memTakeL_iff (hord : Ord ops N1) (hc : Chain m0.next E N) (h0 : ∀ b x, m0.get b = some x → b < m0.next) (hp : W.Pairwise (fun t u => t.2.1 ≠ u.2.1)) {j : Nat} {e : Ent} (he : E[j]? = some e) (hj : j < ops.size) (b : Nat) (x : CB) :
    (memL m0 (E.take j) W (selJ ops j) e.lo).get b = some x ↔ inL m0 E W (selJ ops j) b x := by
  unfold memL inL
  rw [layW_get _ W _ b x hp]
  simp only [memTake_iff hord hc h0 he hj]
theorem pw_ne {W : List (Nat × Nat × CB)} (h : W.Pairwise (fun t u => t.2.1 ≠ u.2.1)) {t u : Nat × Nat × CB} (ht : t ∈ W) (hu : u ∈ W) (hne : t ≠ u) : t.2.1 ≠ u.2.1 := by
  induction W with
  | nil => cases ht
  | cons a W ih =>
    rw [List.pairwise_cons] at h
    rcases List.mem_cons.1 ht with rfl | ht
    · rcases List.mem_cons.1 hu with e | hu2
      · exact absurd e.symm hne
      · exact h.1 u hu2
    · rcases List.mem_cons.1 hu with e | hu2
      · rw [e]; exact (h.1 t ht).symm
      · exact ih h.2 ht hu2
/-- What is known of the late stores. -/
structure LateOK (ops : Array Oper) (m0 : CM) (a0 : CA) (E : List Ent) (W : List (Nat × Nat × CB)) : Prop where
  pair : W.Pairwise (fun t u => t.2.1 ≠ u.2.1)
  lt : ∀ t ∈ W, t.1 < E.length
  made : ∀ t ∈ W, (∃ i f, E[i]? = some f ∧ f.lo ≤ t.2.1 ∧ t.2.1 < f.hi ∧ selJ ops t.1 i = true ∧ ∀ k, k < ops.size → selJ ops k i = true → k = t.1 ∨ selJ ops k t.1 = true ∨ selJ ops t.1 k = true) ∨
    (t.2.1 < m0.next ∧ (∃ z, m0.get t.2.1 = some z ∧ z.own = true) ∧ ∀ k, k < ops.size → k = t.1 ∨ selJ ops k t.1 = true ∨ selJ ops t.1 k = true ∨ ∃ o, ops[k]? = some o ∧ (memFree o.op = true ∨ (∃ u c oo, rdTmp o.op = some u ∧ (putE ops 0 (E.take k) a0).ρ u = .pointer (some ⟨c, oo, none⟩) ∧ c ≠ t.2.1) ∨ ∃ u, rdTmp o.op = some u ∧ (putE ops 0 (E.take k) a0).ρ u = .tuple ⟨[]⟩))
  own : ∀ t ∈ W, t.2.2.own = true
  uniq : ∀ t ∈ W, ∀ u ∈ W, t.1 = u.1 → t = u

/-- What holds while the operations are carried out, in whatever order. -/
structure DInv (ops : Array Oper) (N1 N : Nat) (m0 : CM) (a0 : CA) (E : List Ent) (W : List (Nat × Nat × CB)) (ι0 : Inj) (w0 : World) (l : Array Bool) (ι : Inj) (aw : Act) (w : World) : Prop where
  rel : Rel ι (MD m0 E W N l) w
  base : ∀ b, b < m0.next → ι b = ι0 b
  dom : ∀ b p, ι b = some p → b < m0.next ∨ ∃ k, selD l k = true ∧ inR E k b
  sc : ∀ k e b x, selD l k = true → E[k]? = some e → e.lo ≤ b → b < e.hi → entG e b = some x → BSc (ι.on (Sj' ops m0 E k)) x
  scL : ∀ t ∈ W, selD l t.1 = true → BSc (ι.on (Sj' ops m0 E t.1)) t.2.2
  size : aw.tmps.size = a0.n
  wr : ∀ t k e, selD l k = true → E[k]? = some e → dstOf ops k = some t → tr (ι.on (Sj' ops m0 E k)) e.v = some (aw.tmps.getD t undef)
  nowr : ∀ t, (∀ k, selD l k = true → ¬ (dstOf ops k = some t)) → tr ι0 (a0.ρ t) = some (aw.tmps.getD t undef)
  ds : trDs ι0 a0.ds = some aw.defers
  fr : Fr ι0 m0 w0 ι (MD m0 E W N l) w
  down : ∀ k, selD l k = true → k < N1 ∧ ∀ i, selJ ops k i = true → selD l i = true
  lsz : l.size = ops.size
  dsts : ∀ o ∈ ops.toList, dOk a0.n o.dst = true

theorem step_ok (hL : LateOK ops m0 a0 E W) (hord : Ord ops N1) (hlen : E.length = N1) (hc : Chain m0.next E N) {ι0 : Inj} {w0 : World} (hr0 : Rel ι0 m0 w0) {F : Fence} (hF0 : FR ι0 r F) {l : Array Bool} {ι : Inj} {aw : Act} {w : World} (hI : DInv ops N1 N m0 a0 E W ι0 w0 l ι aw w)
    {j : Nat} {e : Ent} {o : Oper} (he : E[j]? = some e) (hnl : selD l j = false) (hpre : ∀ i, selJ ops j i = true → selD l i = true) (hst : StepOK P r ops m0 a0 LI E W j e o) (Q : Exit → Act → World → Prop) (K : Act → World → Prop)
    (hK : ∀ ι' aw' w', DInv ops N1 N m0 a0 E W ι0 w0 (l.setIfInBounds j true) ι' aw' w' → K aw' w') : wpOpIn F 0 P ops Q j K aw w := by
  have hjs : j < ops.size := (Array.getElem?_eq_some_iff.1 hst.op).1
  have hjN : j < N1 := by have := (List.getElem?_eq_some_iff.1 he).1; omega
  have h0 : ∀ b x, m0.get b = some x → b < m0.next := fun b x h => hr0.lt h
  have hlo := hc.get he
  -- the set of the listed, one more
  have hsel' : ∀ i, selD (l.setIfInBounds j true) i = (selD l i || (i == j)) := by
    intro i
    simp only [selD, Array.getD_eq_getD_getElem?, Array.getElem?_setIfInBounds]
    by_cases c : j = i
    · subst c; rw [if_pos rfl, if_pos (by rw [hI.lsz]; exact hjs)]; simp
    · rw [if_neg c]
      have : (i == j) = false := by simpa using (fun h => c h.symm)
      simp [this]
  -- the relation of what the operation looks at
  have hSlo : ∀ b, Sj ops m0 E j b → b < e.lo := by
    intro b hb
    rcases hb with h | ⟨k, hs, f, hf, h1, h2⟩
    · omega
    · have hkj := hord.low j hjs k hs
      have := (hc.take he).get (i := k) (e := f) (by rw [List.getElem?_take, if_pos hkj]; exact hf)
      omega
  have hmj0 := memTakeL_iff (W := W) hord hc h0 hL.pair he hjs
  obtain ⟨V, hVV, hrun⟩ : ∃ V : CM, ((memFree o.op = false ∧ rdTmp o.op = none ∧ V = memL m0 (E.take j) W (selJ ops j) e.lo) ∨ (V.next = e.lo ∧ ∀ b, V.get b = none) ∨
        (∃ u c oo, rdTmp o.op = some u ∧ (putE ops 0 (E.take j) a0).ρ u = .pointer (some ⟨c, oo, none⟩) ∧ V.next = e.lo ∧ (∀ b, b ≠ c → V.get b = none) ∧ V.get c = (memL m0 (E.take j) W (selJ ops j) e.lo).get c)) ∧
      ((cguard ops o (putE ops 0 (E.take j) a0) = some false ∧ e.v = undef ∧ e.m = none ∧ ∀ t ∈ W, t.1 ≠ j) ∨
       (cguard ops o (putE ops 0 (E.take j) a0) = some true ∧ ∃ m', OpVal P r o (maskA (putE ops 0 (E.take j) a0) (looks ops o)) V e.v m' ∧
        (((∀ t ∈ W, t.1 ≠ j) ∧ (match e.m with | none => m'.next = e.lo ∧ ∀ b, m'.get b = V.get b | some mm => m' = mm ∧ V.le mm)) ∨
         (∃ b x, (j, b, x) ∈ W ∧ (∀ t ∈ W, t.1 = j → t = (j, b, x)) ∧ e.m = none ∧ m'.next = e.lo ∧ m'.get b = some x ∧ (∃ z, V.get b = some z ∧ z.own = true) ∧ ∀ c, c ≠ b → m'.get c = V.get c)))) := by
    rcases hst.run with h | ⟨hg, V, m', hop, hV, h3⟩
    · exact ⟨⟨.nil, e.lo⟩, .inr (.inl ⟨rfl, fun b => by simp [CM.get, T.get]⟩), .inl h⟩
    · refine ⟨V, ?_, .inr ⟨hg, m', hop, ?_⟩⟩
      · rcases hV with h | ⟨_, h⟩ | h
        · exact .inl h
        · exact .inr (.inl h)
        · exact .inr (.inr h)
      · rcases h3 with h3 | ⟨b, x, i, g1, g2, g3, g4, g5, g6, g7, g8, g9, _, g10⟩
        · exact .inl h3
        · exact .inr ⟨b, x, g1, g2, g3, g7, g8, g9, g10⟩
  have hVin : ∀ b x, V.get b = some x → inL m0 E W (selJ ops j) b x := fun b x h => by
    rcases hVV with ⟨_, _, rfl⟩ | ⟨_, hn⟩ | ⟨u, c, oo, _, _, _, hn, hcc⟩
    · exact (hmj0 b x).1 h
    · rw [hn b] at h; cases h
    · by_cases hbc : b = c
      · subst hbc; exact (hmj0 b x).1 (by rw [← hcc]; exact h)
      · rw [hn b hbc] at h; cases h
  have hmj : ∀ b x, V.get b = some x ↔ V.get b = some x := fun _ _ => Iff.rfl
  have hMD := fun b x => memL_iff (W := W) hc h0 hL.pair (selD l) N b x
  have hsubM : ∀ b x, inM m0 E (selJ ops j) b x → inM m0 E (selD l) b x := by
    rintro b x (h | ⟨k, f, hs, h⟩)
    · exact .inl h
    · exact .inr ⟨k, f, hpre k hs, h⟩
  -- a late block that is seen is seen as it is
  have hseen : ∀ b z t, memFree o.op = false ∧ (rdTmp o.op = none ∨ ∃ u oo, rdTmp o.op = some u ∧ (putE ops 0 (E.take j) a0).ρ u = .pointer (some ⟨b, oo, none⟩)) → inM m0 E (selJ ops j) b z → t ∈ W → t.2.1 = b → selD l t.1 = true → selJ ops j t.1 = true := by
    rintro b z t ⟨hmf, hrd⟩ hz ht rfl hlt
    rcases hL.made t ht with ⟨i, f, hf, h1, h2, h3, h4⟩ | ⟨_, _, h4⟩
    case inr =>
      rcases h4 j hjs with rfl | h | h | ⟨o', ho', h⟩
      · rw [hnl] at hlt; cases hlt
      · exact h
      · have := (hI.down _ hlt).2 j h; rw [hnl] at this; cases this
      · rw [hst.op] at ho'; cases ho'
        rcases h with h | ⟨u, c, oo, h1, h2, h3⟩ | ⟨u, h1, h2⟩
        · rw [hmf] at h; cases h
        · rcases hrd with hrd | ⟨u', oo', g1, g2⟩
          · rw [hrd] at h1; cases h1
          · rw [g1] at h1; cases h1
            rw [g2] at h2; cases h2
            exact absurd rfl h3
        · rcases hrd with hrd | ⟨u', oo', g1, g2⟩
          · rw [hrd] at h1; cases h1
          · rw [g1] at h1; cases h1
            rw [g2] at h2; cases h2
    rcases hz with hz | ⟨k, g, hs, hg, g1, g2, _⟩
    · have := (hc.get hf).1; omega
    · have hki : k = i := inR_uniq hc ⟨g, hg, g1, g2⟩ ⟨f, hf, h1, h2⟩
      subst hki
      rcases h4 j hjs hs with rfl | h | h
      · rw [hnl] at hlt; cases hlt
      · exact h
      · have := (hI.down _ hlt).2 j h; rw [hnl] at this; cases this
  have hsub : ∀ b x, V.get b = some x → inL m0 E W (selD l) b x := by
    intro b x hV
    have hside : memFree o.op = false ∧ (rdTmp o.op = none ∨ ∃ u oo, rdTmp o.op = some u ∧ (putE ops 0 (E.take j) a0).ρ u = .pointer (some ⟨b, oo, none⟩)) := by
      rcases hVV with ⟨hmf, hrd, _⟩ | ⟨_, hn⟩ | ⟨u, c, oo, h1, h2, _, hn, _⟩
      · exact ⟨hmf, .inl hrd⟩
      · rw [hn b] at hV; cases hV
      · by_cases hbc : b = c
        · subst hbc; exact ⟨(rd_still h1).2, .inr ⟨u, oo, h1, h2⟩⟩
        · rw [hn b hbc] at hV; cases hV
    rcases hVin b x hV with ⟨t, ht, hs, hb, hx, z, hz⟩ | ⟨hno, h⟩
    · exact .inl ⟨t, ht, hpre _ hs, hb, hx, z, hsubM b z hz⟩
    · exact .inr ⟨fun t ht hh => hno t ht ⟨hseen b x t hside h ht hh.2 hh.1, hh.2⟩, hsubM b x h⟩
  have hinS : ∀ b x, V.get b = some x → Sj ops m0 E j b := by
    intro b x h
    obtain ⟨z, hz⟩ := inL_inM (hVin b x h)
    rcases hz with h | ⟨k, f, hs, hf, h1, h2, _⟩
    · exact .inl h.1
    · exact .inr ⟨k, hs, f, hf, h1, h2⟩
  have hSS : ∀ k, selJ ops j k = true → ∀ b, Sj' ops m0 E k b → Sj ops m0 E j b := by
    rintro k hk b ((h | ⟨i, hi, hb⟩) | hb)
    · exact .inl h
    · exact .inr ⟨i, hord.trans j hjs k i hk hi, hb⟩
    · exact .inr ⟨k, hk, hb⟩
  have hbsc0 : ∀ b x, m0.get b = some x → BSc ι0 x := fun b x h => let ⟨p, _, hb⟩ := hr0.blk b x h; hb.sc
  have hι0S : ∀ S : Nat → Prop, (∀ b, b < m0.next → S b) → ι0.le (ι.on S) := by
    intro S hS b p hb
    have hlt : b < m0.next := by
      apply Nat.lt_of_not_le; intro hge; rw [hr0.fresh b hge] at hb; cases hb
    rw [Inj.on_in (hS b hlt), hI.base b hlt]; exact hb
  have hvn : V.next = e.lo := by
    rcases hVV with ⟨_, _, rfl⟩ | ⟨h, _⟩ | ⟨_, _, _, _, _, h, _⟩
    · unfold memL; rw [layW_next]; rfl
    · exact h
    · exact h
  have hrelJ : Rel (ι.on (Sj ops m0 E j)) V w := by
    refine ⟨fun b hb => ?_, fun b p hp => hI.rel.low b p (Inj.on_some hp).2, fun b x hx => ?_, fun b b' x x' p p' hx hx' hne ho hl hp hp' => ?_⟩
    · have hb : e.lo ≤ b := by rw [hvn] at hb; exact hb
      cases hh : ι.on (Sj ops m0 E j) b with
      | none => rfl
      | some p => have := hSlo b (Inj.on_some hh).1; omega
    · have hin := (hmj b x).1 hx
      obtain ⟨p, hp, hb⟩ := hI.rel.blk b x ((hMD b x).2 (hsub b x hin))
      refine ⟨p, by rw [Inj.on_in (hinS b x hin)]; exact hp, hb.narrow (Inj.on_le _ _) ?_⟩
      rcases hVin b x hx with ⟨t, ht, hs, hb, rfl, _⟩ | ⟨_, ⟨_, h⟩ | ⟨k, f, hs, hf, h1, h2, h3⟩⟩
      · exact (hI.scL t ht (hpre _ hs)).mono (Inj.on_mono (.refl ι) (hSS _ hs))
      · exact (hbsc0 b x h).mono (hι0S _ (fun b hb => .inl hb))
      · exact (hI.sc k f b x (hpre k hs) hf h1 h2 h3).mono (Inj.on_mono (.refl ι) (hSS k hs))
    · exact hI.rel.apart b b' x x' p p' ((hMD b x).2 (hsub _ _ ((hmj b x).1 hx))) ((hMD b' x').2 (hsub _ _ ((hmj b' x').1 hx'))) hne ho hl (Inj.on_some hp).2 (Inj.on_some hp').2
  have hFJ : FR (ι.on (Sj ops m0 E j)) r F := hF0.mono (hι0S _ (fun b hb => .inl hb))
  -- what the operation reads
  have hactJ : ∀ t, (looks ops o).contains t = true → tr (ι.on (Sj ops m0 E j)) ((putE ops 0 (E.take j) a0).ρ t) = some (aw.tmps.getD t undef) := by
    intro t ht
    have ht' : t ∈ looks ops o := by simpa using ht
    rcases putE_ρ ops (E.take j) 0 a0 t with ⟨k, f, hk, hd, hv⟩ | ⟨hno, hv⟩
    · rw [hv]
      simp only [Nat.zero_add] at hd
      rw [List.getElem?_take] at hk
      split at hk
      · rename_i hkj
        have hks : k < ops.size := by omega
        have hsel : selJ ops j k = true := by
          rcases hord.look j o hst.op t ht' k hks (by omega) hd with h | h
          · have := hord.low k hks j h; omega
          · exact h
        exact tr_mono (Inj.on_mono (.refl ι) (hSS k hsel)) _ _ (hI.wr t k f (hpre k hsel) hk hd)
      · cases hk
    · rw [hv]
      refine tr_mono (hι0S _ (fun b hb => .inl hb)) _ _ (hI.nowr t ?_)
      intro k hk hd
      have hkN := hI.down k hk
      have hks : k < ops.size := Nat.lt_of_lt_of_le hkN.1 hord.le
      by_cases c : k < j
      · refine hno k (by simp; omega) (by simpa using hd)
      · by_cases c2 : k = j
        · subst c2; rw [hnl] at hk; cases hk
        · rcases hord.look j o hst.op t ht' k hks c2 hd with h | h
          · have := hkN.2 j h; rw [hnl] at this; cases this
          · have := hord.low j hjs k h; omega
  have hRA : RelA (ι.on (Sj ops m0 E j)) (maskA (putE ops 0 (E.take j) a0) (looks ops o)) (maskW aw (looks ops o)) := by
    refine ⟨by rw [maskW_size, hI.size]; show a0.n = _; exact (putE_n ..).symm, fun t => ?_, ?_⟩
    · rw [maskW_getD]
      show tr _ (if (looks ops o).contains t then (putE ops 0 (E.take j) a0).ρ t else undef) = _
      by_cases ht : (looks ops o).contains t = true
      · rw [if_pos ht, if_pos ht]; exact hactJ t ht
      · rw [if_neg ht, if_neg ht]; simp [undef, tr, trL]
    · show trDs _ (putE ops 0 (E.take j) a0).ds = some aw.defers
      rw [putE_ds]; exact trDs_mono (hι0S _ (fun b hb => .inl hb)) hI.ds
  -- its guard
  have hguard : ∀ g, cguard ops o (putE ops 0 (E.take j) a0) = some g → Region.wanted o (yielded ops aw.tmps) = g := by
    intro g hg
    have h1 : cguard ops o (maskA (putE ops 0 (E.take j) a0) (looks ops o)) = some g := by
      unfold cguard at hg ⊢
      cases hgu : o.guard with
      | none => rw [hgu] at hg; exact hg
      | some jw =>
        obtain ⟨k, want⟩ := jw
        simp only [hgu] at hg ⊢
        cases hd : (ops[k]?).bind (·.dst) with
        | none => simp [hd] at hg
        | some d =>
          simp only [hd] at hg ⊢
          have hcon : (looks ops o).contains d = true := by
            have : d ∈ looks ops o := List.mem_append_right _ (by rw [hgu]; simp [hd])
            simpa using this
          simp only [maskA, hcon, if_true]
          exact hg
    have h2 := cguard_wanted hRA (by show ∀ o ∈ ops.toList, dOk (putE ops 0 (E.take j) a0).n o.dst = true; rw [putE_n]; exact hI.dsts) h1
    rw [← h2]
    unfold Region.wanted
    cases hgu : o.guard with
    | none => rfl
    | some jw =>
      obtain ⟨k, want⟩ := jw
      simp only []
      congr 1
      unfold yielded
      cases hd : (ops[k]?).bind (·.dst) with
      | none => rfl
      | some d =>
        have hcon : (looks ops o).contains d = true := by
          have : d ∈ looks ops o := List.mem_append_right _ (by rw [hgu]; simp [hd])
          simpa using this
        simp only [Option.bind_some, maskW_get aw _ d hcon]
  have hjlt : selD (l.setIfInBounds j true) j = true := by rw [hsel']; simp
  have hold' : ∀ i, selD l i = true → selD (l.setIfInBounds j true) i = true := fun i h => by rw [hsel', h]; rfl
  have hcase : ∀ i, selD (l.setIfInBounds j true) i = true → selD l i = true ∨ i = j := by
    intro i h; rw [hsel'] at h
    simp only [Bool.or_eq_true, beq_iff_eq] at h; exact h
  have hdown : ∀ k, selD (l.setIfInBounds j true) k = true → k < N1 ∧ ∀ i, selJ ops k i = true → selD (l.setIfInBounds j true) i = true := by
    intro k hk
    rcases hcase k hk with h | rfl
    · exact ⟨(hI.down k h).1, fun i hi => hold' i ((hI.down k h).2 i hi)⟩
    · exact ⟨hjN, fun i hi => hold' i (hpre i hi)⟩
  have hlsz : (l.setIfInBounds j true).size = ops.size := by simp [hI.lsz]
  have hdj : dstOf ops j = o.dst := by simp [dstOf, hst.op]
  have hMD' := fun b x => memL_iff (W := W) hc h0 hL.pair (selD (l.setIfInBounds j true)) N b x
  have hMDn : ∀ l' : Array Bool, (MD m0 E W N l').next = N := by
    intro l'; unfold MD memL; rw [layW_next]; rfl
  have hlowS : ∀ (l' : Array Bool) (b : Nat) (x x' : CB), m0.get b = some x → (MD m0 E W N l').get b = some x' → x'.own = x.own := by
    intro l' b x x' hx hx'
    have hb := h0 b x hx
    have hx' : (memL m0 E W (selD l') N).get b = some x' := hx'
    rw [memL_iff hc h0 hL.pair] at hx'
    rcases hx' with ⟨t, ht, _, hb2, hxt, _⟩ | ⟨_, h⟩
    · rcases hL.made t ht with ⟨i, f, hfi, g1, _⟩ | ⟨_, ⟨z, hz, hzo⟩, _⟩
      · have := (hc.get hfi).1; omega
      · rw [hb2, hx] at hz; cases hz
        rw [hxt, hL.own t ht, hzo]
    · rcases h with h | ⟨k, f, _, hfk, h1, _⟩
      · rw [hx] at h; cases h.2; rfl
      · have := (hc.get hfk).1; omega
  have hlowN : ∀ (l' : Array Bool) (b : Nat), b < m0.next → m0.get b = none → (MD m0 E W N l').get b = none := by
    intro l' b hb hg
    cases hh : (MD m0 E W N l').get b with
    | none => rfl
    | some x' =>
      have hx' : (memL m0 E W (selD l') N).get b = some x' := hh
      rw [memL_iff hc h0 hL.pair] at hx'
      obtain ⟨z, hz⟩ := inL_inM hx'
      rcases hz with h | ⟨k, f, _, hfk, h1, _⟩
      · rw [hg] at h; cases h.2
      · have := (hc.get hfk).1; omega
  -- what stands once the blocks stand
  have done : ∀ (ιn : Inj) (w' : World) (v' : Value), ι.le ιn → Rel ιn (MD m0 E W N (l.setIfInBounds j true)) w' → Fr ι0 m0 w0 ιn (MD m0 E W N (l.setIfInBounds j true)) w' → (∀ b, b < m0.next → ιn b = ι0 b) →
      (∀ b p, ιn b = some p → b < m0.next ∨ ∃ k, selD (l.setIfInBounds j true) k = true ∧ inR E k b) → (∀ b x, e.lo ≤ b → b < e.hi → entG e b = some x → BSc (ιn.on (Sj' ops m0 E j)) x) →
      (∀ t ∈ W, t.1 = j → BSc (ιn.on (Sj' ops m0 E j)) t.2.2) → tr (ιn.on (Sj' ops m0 E j)) e.v = some v' → K (aw.put o.dst v') w' := by
    intro ιn w' v' hleN hrelN hfrN hbase hdom hscj hscLj hvj
    refine hK ιn _ w' ⟨hrelN, hbase, hdom, fun k f b x hk hfk h1 h2 h3 => ?_, fun t ht hk => ?_, ?_, fun t k f hk hfk hd => ?_, fun t hno => ?_, ?_, hfrN, hdown, hlsz, hI.dsts⟩
    · rcases hcase k hk with h | rfl
      · exact (hI.sc k f b x h hfk h1 h2 h3).mono (Inj.on_mono hleN (fun _ h => h))
      · rw [he] at hfk; cases hfk
        exact hscj b x h1 h2 h3
    · rcases hcase _ hk with h | h
      · exact (hI.scL t ht h).mono (Inj.on_mono hleN (fun _ h => h))
      · rw [h]; exact hscLj t ht h
    · have : (aw.put o.dst v').tmps.size = aw.tmps.size := by cases o.dst <;> simp [Act.put]
      rw [this]; exact hI.size
    · have hputd : o.dst = some t → (aw.put o.dst v').tmps.getD t undef = v' := by
        intro hod
        simp only [hod, Act.put, Array.getD_eq_getD_getElem?, Array.getElem?_setIfInBounds, if_true]
        rw [if_pos (by rw [hI.size]; have := hI.dsts o (by simpa using Array.mem_of_getElem? hst.op); rw [hod] at this; simpa [dOk] using this)]; rfl
      have hputo : o.dst ≠ some t → (aw.put o.dst v').tmps.getD t undef = aw.tmps.getD t undef := by
        intro hod
        cases hdd : o.dst with
        | none => rfl
        | some d =>
          simp only [Act.put, Array.getD_eq_getD_getElem?, Array.getElem?_setIfInBounds]
          rw [if_neg (by rintro rfl; exact hod hdd)]
      rcases hcase k hk with h | rfl
      · have hkj : k ≠ j := by rintro rfl; rw [hnl] at h; cases h
        have hod : o.dst ≠ some t := by
          intro hod
          have hks : k < ops.size := Nat.lt_of_lt_of_le (hI.down k h).1 hord.le
          exact hkj (hord.uniq k j t hks hjs hd (by rw [hdj]; exact hod))
        rw [hputo hod]
        exact tr_mono (Inj.on_mono hleN (fun _ h => h)) _ _ (hI.wr t k f h hfk hd)
      · rw [he] at hfk; cases hfk
        rw [hdj] at hd
        rw [hputd hd]
        exact hvj
    · have hod : ¬ (o.dst = some t) := by have := hno j hjlt; rwa [hdj] at this
      have hputo : (aw.put o.dst v').tmps.getD t undef = aw.tmps.getD t undef := by
        cases hdd : o.dst with
        | none => rfl
        | some d =>
          simp only [Act.put, Array.getD_eq_getD_getElem?, Array.getElem?_setIfInBounds]
          by_cases c : d = t
          · subst c; exact absurd hdd hod
          · rw [if_neg c]
      rw [hputo]
      exact hI.nowr t (fun k hk => hno k (hold' k hk))
    · have : (aw.put o.dst v').defers = aw.defers := by cases o.dst <;> rfl
      rw [this]; exact hI.ds
  have hownlive : ∀ y : CB, y.own = true → y.live = true := by
    intro y hy; cases y <;> simp_all [CB.own, CB.live]
  -- the next world, out of what an operation leaves that stores nothing late
  have fin : (∀ t ∈ W, t.1 ≠ j) → ∀ (ι' : Inj) (w' : World) (v' : Value) (mm : CM), (ι.on (Sj ops m0 E j)).le ι' → Rel ι' mm w' → tr ι' e.v = some v' → Fr (ι.on (Sj ops m0 E j)) V w ι' mm w' →
      mm.next = e.hi → (∀ b, b < e.lo → mm.get b = V.get b) → (∀ b x, e.lo ≤ b → b < e.hi → (mm.get b = some x ↔ entG e b = some x)) →
      K (aw.put o.dst v') w' := by
    intro hWj ι' w' v' mm hle hr' hv hf hnx hlow hhigh
    -- the new places
    obtain ⟨ιn, hιn⟩ : ∃ ιn : Inj, ιn = fun b => if e.lo ≤ b ∧ b < e.hi then ι' b else ι b := ⟨_, rfl⟩
    have hin : ∀ b, e.lo ≤ b → b < e.hi → ιn b = ι' b := fun b h1 h2 => by rw [hιn]; exact if_pos ⟨h1, h2⟩
    have hout : ∀ b, ¬ (e.lo ≤ b ∧ b < e.hi) → ιn b = ι b := fun b h => by rw [hιn]; exact if_neg h
    have hnone : ∀ b, e.lo ≤ b → b < e.hi → ι b = none := by
      intro b h1 h2
      cases hh : ι b with
      | none => rfl
      | some p =>
        rcases hI.dom b p hh with h | ⟨k, hk, hb⟩
        · omega
        · have := inR_uniq hc hb ⟨e, he, h1, h2⟩
          subst this; rw [hnl] at hk; cases hk
    have hleN : ι.le ιn := fun b p hb => by
      by_cases c : e.lo ≤ b ∧ b < e.hi
      · rw [hnone b c.1 c.2] at hb; cases hb
      · rw [hout b c]; exact hb
    have hle'N : ∀ b p, ι' b = some p → ιn.on (Sj' ops m0 E j) b = some p := by
      intro b p hb
      have hbl : b < e.hi := by
        apply Nat.lt_of_not_le; intro hge
        rw [hr'.fresh b (by rw [hnx]; exact hge)] at hb; cases hb
      by_cases c : e.lo ≤ b
      · have hS : Sj' ops m0 E j b := .inr ⟨e, he, c, hbl⟩
        rw [Inj.on_in hS, hin b c hbl]; exact hb
      · have h1 := hf.inj b (by rw [hvn]; exact Nat.lt_of_not_le c)
        rw [h1] at hb
        obtain ⟨hs, hb2⟩ := Inj.on_some hb
        rw [Inj.on_in (.inl hs), hout b (fun h => c h.1)]; exact hb2
    have hleN' : ι'.le ιn := fun b p hb => Inj.on_le _ _ _ _ (hle'N b p hb)
    -- kinds of blocks
    have kinds : ∀ b x, inL m0 E W (selD (l.setIfInBounds j true)) b x → (e.lo ≤ b ∧ b < e.hi ∧ mm.get b = some x) ∨ (¬ (e.lo ≤ b ∧ b < e.hi) ∧ inL m0 E W (selD l) b x) := by
      have km : ∀ b x, inM m0 E (selD (l.setIfInBounds j true)) b x → (e.lo ≤ b ∧ b < e.hi ∧ mm.get b = some x) ∨ (¬ (e.lo ≤ b ∧ b < e.hi) ∧ inM m0 E (selD l) b x) := by
        rintro b x (h | ⟨k, f, hs, hfk, h1, h2, h3⟩)
        · exact .inr ⟨fun c => by have := h.1; omega, .inl h⟩
        · rcases hcase k hs with h | rfl
          · refine .inr ⟨fun c => ?_, .inr ⟨k, f, h, hfk, h1, h2, h3⟩⟩
            have := inR_uniq hc ⟨f, hfk, h1, h2⟩ ⟨e, he, c.1, c.2⟩
            subst this; rw [hnl] at h; cases h
          · rw [he] at hfk; cases hfk
            exact .inl ⟨h1, h2, (hhigh b x h1 h2).2 h3⟩
      rintro b x (⟨t, ht, hs, hb, hx, z, hz⟩ | ⟨hno, h⟩)
      · have htl : selD l t.1 = true := (hcase _ hs).resolve_right (hWj t ht)
        have hnr : ¬ (e.lo ≤ b ∧ b < e.hi) := by
          intro c
          rcases hL.made t ht with ⟨i, f, hfi, g1, g2, g3, g4⟩ | ⟨g1, _⟩
          · have hil : selD l i = true := (hI.down _ htl).2 i g3
            have := inR_uniq hc ⟨f, hfi, by rw [← hb]; exact g1, by rw [← hb]; exact g2⟩ ⟨e, he, c.1, c.2⟩
            subst this; rw [hnl] at hil; cases hil
          · omega
        refine .inr ⟨hnr, .inl ⟨t, ht, htl, hb, hx, z, ?_⟩⟩
        rcases km b z hz with h | h
        · exact absurd ⟨h.1, h.2.1⟩ hnr
        · exact h.2
      · rcases km b x h with h | ⟨h1, h2⟩
        · exact .inl h
        · exact .inr ⟨h1, .inr ⟨fun t ht hh => hno t ht ⟨hold' _ hh.1, hh.2⟩, h2⟩⟩
    have hmmold : ∀ b x, V.get b = some x → mm.get b = some x := fun b x h => by
      rw [hlow b (hSlo b (hinS b x h))]; exact (hmj b x).2 h
    have hother : ∀ b x p, inL m0 E W (selD l) b x → ¬ (V.get b = some x) → ι b = some p → x.live = true → w'.heap[p.blk]? = w.heap[p.blk]? := by
      intro b x p hb hnb hp hl
      refine hf.keep p.blk (hI.rel.low b p hp) ?_
      intro b1 x1 p1 h1 ho1 hp1 hh
      have h1' := (hmj b1 x1).1 h1
      by_cases c : b1 = b
      · subst c
        have e1 := (hMD b1 x).2 hb
        have e2 := (hMD b1 x1).2 (hsub _ _ h1')
        rw [e1] at e2; cases e2; exact hnb h1'
      · exact hI.rel.apart b1 b x1 x p1 p ((hMD _ _).2 (hsub _ _ h1')) ((hMD _ _).2 hb) c ho1 hl (Inj.on_some hp1).2 hp hh
    have hrelN : Rel ιn (MD m0 E W N (l.setIfInBounds j true)) w' := by
      refine ⟨fun b hb => ?_, fun b p hp => ?_, fun b x hx => ?_, fun b b' x x' p p' hx hx' hne ho hl hp hp' => ?_⟩
      · have hb : N ≤ b := by rw [hMDn] at hb; exact hb
        rw [hout b (fun c => by omega)]
        exact hI.rel.fresh b (by rw [hMDn]; exact hb)
      · by_cases c : e.lo ≤ b ∧ b < e.hi
        · rw [hin b c.1 c.2] at hp; exact hr'.low b p hp
        · rw [hout b c] at hp; have := hI.rel.low b p hp; have := hf.size; omega
      · rcases kinds b x ((hMD' b x).1 hx) with ⟨h1, h2, h3⟩ | ⟨h1, h2⟩
        · obtain ⟨p, hp, hb⟩ := hr'.blk b x h3
          exact ⟨p, by rw [hin b h1 h2]; exact hp, hb.mono hleN' rfl⟩
        · by_cases c : V.get b = some x
          · obtain ⟨p, hp, hb⟩ := hr'.blk b x (hmmold b x c)
            exact ⟨p, hleN' _ _ hp, hb.mono hleN' rfl⟩
          · obtain ⟨p, hp, hb⟩ := hI.rel.blk b x ((hMD b x).2 h2)
            refine ⟨p, by rw [hout b h1]; exact hp, ?_⟩
            by_cases hl : x.live = true
            · exact hb.mono hleN (hother b x p h2 c hp hl)
            · cases x with
              | cells cc esz own =>
                simp [CB.live] at hl
                obtain ⟨rfl, rfl⟩ := hl
                obtain ⟨g1, g2, g3, g4⟩ := hb
                exact ⟨g1, g2, fun i v hv => by simp at hv, fun h => by cases h⟩
              | map es => simp [CB.live] at hl
              | loop l => simp [CB.live] at hl
              | dfr => simp [CB.live] at hl
              | siter s pos => simp [CB.live] at hl
      · -- a new block against an old one
        have newold : ∀ {b1 b2 : Nat} {x1 x2 : CB} {p1 p2 : Pl}, e.lo ≤ b1 → b1 < e.hi → mm.get b1 = some x1 → ιn b1 = some p1 → ¬ (e.lo ≤ b2 ∧ b2 < e.hi) → inL m0 E W (selD l) b2 x2 → ιn b2 = some p2 → (x1.own = true ∧ x2.live = true ∨ x2.own = true ∧ x1.live = true) → p1.blk ≠ p2.blk := by
          intro b1 b2 x1 x2 p1 p2 g1 g2 g3 gp1 g4 g5 gp2 gor
          rw [hin b1 g1 g2] at gp1
          rw [hout b2 g4] at gp2
          by_cases c : V.get b2 = some x2
          · have hm2 := hmmold b2 x2 c
            have hp2' : ι' b2 = some p2 := by
              obtain ⟨q, hq, _⟩ := hr'.blk b2 x2 hm2
              have := hleN' _ _ hq
              rw [hout b2 g4, gp2] at this; cases this; exact hq
            have hbne : b1 ≠ b2 := fun h => by subst h; exact g4 ⟨g1, g2⟩
            rcases gor with ⟨o1, l2⟩ | ⟨o2, l1⟩
            · exact hr'.apart b1 b2 x1 x2 p1 p2 g3 hm2 hbne o1 l2 gp1 hp2'
            · exact (hr'.apart b2 b1 x2 x1 p2 p1 hm2 g3 (Ne.symm hbne) o2 l1 hp2' gp1).symm
          · have hlow2 := hI.rel.low b2 p2 gp2
            rcases hf.born b1 x1 p1 g3 gp1 with hs | ⟨b0, x0, p0, q1, q2, q3, q4⟩
            · omega
            · have q1' := (hmj b0 x0).1 q1
              have hb0 : b0 < e.lo := hSlo b0 (hinS b0 x0 q1')
              have hx0 : x0.own = true := by
                rcases q4 with rfl | h
                · omega
                · exact h
              have hbne : b0 ≠ b2 := by
                rintro rfl
                have e1 := (hMD b0 x2).2 g5
                have e2 := (hMD b0 x0).2 (hsub _ _ q1')
                rw [e1] at e2; cases e2; exact c q1'
              have hl2 : x2.live = true := by
                rcases gor with ⟨_, h⟩ | ⟨h, _⟩
                · exact h
                · exact hownlive _ h
              rw [← q3]
              exact hI.rel.apart b0 b2 x0 x2 p0 p2 ((hMD _ _).2 (hsub _ _ q1')) ((hMD _ _).2 g5) hbne hx0 hl2 (Inj.on_some q2).2 gp2
        rcases kinds b x ((hMD' b x).1 hx) with ⟨h1, h2, h3⟩ | ⟨h1, h2⟩
        · rcases kinds b' x' ((hMD' b' x').1 hx') with ⟨h1', h2', h3'⟩ | ⟨h1', h2'⟩
          · rw [hin b h1 h2] at hp; rw [hin b' h1' h2'] at hp'
            exact hr'.apart b b' x x' p p' h3 h3' hne ho hl hp hp'
          · exact newold h1 h2 h3 hp h1' h2' hp' (.inl ⟨ho, hl⟩)
        · rcases kinds b' x' ((hMD' b' x').1 hx') with ⟨h1', h2', h3'⟩ | ⟨h1', h2'⟩
          · exact (newold h1' h2' h3' hp' h1 h2 hp (.inr ⟨ho, hl⟩)).symm
          · rw [hout b h1] at hp; rw [hout b' h1'] at hp'
            exact hI.rel.apart b b' x x' p p' ((hMD _ _).2 h2) ((hMD _ _).2 h2') hne ho hl hp hp'
    have hfrN : Fr ι0 m0 w0 ιn (MD m0 E W N (l.setIfInBounds j true)) w' := by
      refine ⟨hf.os.trans hI.fr.os, hf.tape.trans hI.fr.tape, hf.output.trans hI.fr.output, Nat.le_trans hI.fr.size hf.size, fun B hB hno => ?_, fun b x p hx hp => ?_, fun b x x' hx hx' => ?_, by rw [hMDn]; exact hc.le, fun b hb hg => hlowN _ b hb hg,
        fun b hb => by rw [hout b (fun c => by omega)]; exact hI.base b hb⟩
      · rw [hf.keep B (Nat.lt_of_lt_of_le hB hI.fr.size) ?_, hI.fr.keep B hB hno]
        intro b1 x1 p1 h1 ho1 hp1 hh
        have h1' := (hMD _ _).2 (hsub _ _ ((hmj b1 x1).1 h1))
        rcases hI.fr.born b1 x1 p1 h1' (Inj.on_some hp1).2 with hs | ⟨b0, x0, p0, q1, q2, q3, q4⟩
        · omega
        · have hx0 : x0.own = true := by
            rcases q4 with rfl | h
            · rw [← hI.fr.stay _ _ _ q1 h1']; exact ho1
            · exact h
          exact hno b0 x0 p0 q1 hx0 q2 (q3.trans hh)
      · rcases kinds b x ((hMD' b x).1 hx) with ⟨h1, h2, h3⟩ | ⟨h1, h2⟩
        · rw [hin b h1 h2] at hp
          rcases hf.born b x p h3 hp with hs | ⟨b0, x0, p0, q1, q2, q3, q4⟩
          · exact .inl (Nat.le_trans hI.fr.size hs)
          · have q1' := (hmj b0 x0).1 q1
            have hb0 : b0 < e.lo := hSlo b0 (hinS b0 x0 q1')
            have hx0 : x0.own = true := by
              rcases q4 with rfl | h
              · omega
              · exact h
            have hM0 := (hMD _ _).2 (hsub _ _ q1')
            rcases hI.fr.born b0 x0 p0 hM0 (Inj.on_some q2).2 with hs | ⟨b2, x2, p2, t1, t2, t3, t4⟩
            · exact .inl (by omega)
            · refine .inr ⟨b2, x2, p2, t1, t2, t3.trans q3, .inr ?_⟩
              rcases t4 with rfl | h
              · rw [← hI.fr.stay _ _ _ t1 hM0]; exact hx0
              · exact h
        · rw [hout b h1] at hp
          exact hI.fr.born b x p ((hMD b x).2 h2) hp
      · exact hlowS _ b x x' hx hx'
    refine done ιn w' v' hleN hrelN hfrN (fun b hb => by rw [hout b (fun c => by omega)]; exact hI.base b hb) (fun b p hp => ?_) (fun b x h1 h2 h3 => ?_) (fun t ht h => absurd h (hWj t ht)) (tr_mono hle'N _ _ hv)
    · by_cases c : e.lo ≤ b ∧ b < e.hi
      · exact .inr ⟨j, hjlt, e, he, c.1, c.2⟩
      · rw [hout b c] at hp
        rcases hI.dom b p hp with h | ⟨k, hk, hb⟩
        · exact .inl h
        · exact .inr ⟨k, hold' k hk, hb⟩
    · obtain ⟨p, _, hb⟩ := hr'.blk b x ((hhigh b x h1 h2).2 h3)
      exact hb.sc.mono hle'N
  -- the next world, out of a late store
  have finL : ∀ (ι' : Inj) (w' : World) (v' : Value) (mm : CM) (b0 : Nat) (x0 z0 : CB), (j, b0, x0) ∈ W → (∀ t ∈ W, t.1 = j → t = (j, b0, x0)) → e.m = none → (ι.on (Sj ops m0 E j)).le ι' → Rel ι' mm w' → tr ι' e.v = some v' →
      Fr (ι.on (Sj ops m0 E j)) V w ι' mm w' → mm.next = e.lo → mm.get b0 = some x0 → V.get b0 = some z0 → z0.own = true →
      (∀ c, c ≠ b0 → mm.get c = V.get c) → K (aw.put o.dst v') w' := by
    intro ι' w' v' mm b0 x0 z0 hin0 huq hem hle hr' hv hf hnx hx0 hz0 hown hoth
    have hhi : e.hi = e.lo := by simp [Ent.hi, hem]
    have hι : ι'.le (ι.on (Sj ops m0 E j)) := by
      intro b p hb
      by_cases c : b < e.lo
      · rw [hf.inj b (by rw [hvn]; exact c)] at hb; exact hb
      · rw [hr'.fresh b (by rw [hnx]; omega)] at hb; cases hb
    have hι2 : ι'.le ι := fun b p hb => Inj.on_le _ _ _ _ (hι b p hb)
    have hzL := (hmj b0 z0).1 hz0
    have hzD := hsub b0 z0 hzL
    have hxown : x0.own = true := by rw [hf.stay b0 z0 x0 hz0 hx0]; exact hown
    -- kinds
    have kinds : ∀ b x, inL m0 E W (selD (l.setIfInBounds j true)) b x → (b = b0 ∧ x = x0) ∨ (b ≠ b0 ∧ inL m0 E W (selD l) b x) := by
      have km : ∀ b x, inM m0 E (selD (l.setIfInBounds j true)) b x → inM m0 E (selD l) b x := by
        rintro b x (h | ⟨k, f, hs, hfk, h1, h2, h3⟩)
        · exact .inl h
        · rcases hcase k hs with h | rfl
          · exact .inr ⟨k, f, h, hfk, h1, h2, h3⟩
          · rw [he] at hfk; cases hfk; omega
      rintro b x (⟨t, ht, hs, hb, hx, z, hz⟩ | ⟨hno, h⟩)
      · rcases hcase _ hs with h | h
        · refine .inr ⟨?_, .inl ⟨t, ht, h, hb, hx, z, km b z hz⟩⟩
          intro hbb
          have : t ≠ (j, b0, x0) := fun hh => by rw [hh] at h; rw [hnl] at h; cases h
          exact pw_ne hL.pair ht hin0 this (hb.trans hbb)
        · rw [huq t ht h] at hb hx; exact .inl ⟨hb.symm, hx⟩
      · refine .inr ⟨?_, .inr ⟨fun t ht hh => hno t ht ⟨hold' _ hh.1, hh.2⟩, km b x h⟩⟩
        intro hbb
        exact hno _ hin0 ⟨hjlt, hbb.symm⟩
    have hother : ∀ b x p, b ≠ b0 → inL m0 E W (selD l) b x → ¬ (V.get b = some x) → ι b = some p → x.live = true → w'.heap[p.blk]? = w.heap[p.blk]? := by
      intro b x p _ hb hnb hp hl
      refine hf.keep p.blk (hI.rel.low b p hp) ?_
      intro b1 x1 p1 h1 ho1 hp1 hh
      have h1' := (hmj b1 x1).1 h1
      by_cases c : b1 = b
      · subst c
        have e1 := (hMD b1 x).2 hb
        have e2 := (hMD b1 x1).2 (hsub _ _ h1')
        rw [e1] at e2; cases e2; exact hnb h1'
      · exact hI.rel.apart b1 b x1 x p1 p ((hMD _ _).2 (hsub _ _ h1')) ((hMD _ _).2 hb) c ho1 hl (Inj.on_some hp1).2 hp hh
    -- each block's earlier self
    have early : ∀ b x, inL m0 E W (selD (l.setIfInBounds j true)) b x → ∃ z, inL m0 E W (selD l) b z ∧ z.own = x.own ∧ (x.live = true → z.live = true) := by
      intro b x h
      rcases kinds b x h with ⟨rfl, rfl⟩ | ⟨_, h⟩
      · exact ⟨z0, hzD, hown.trans hxown.symm, fun _ => hownlive _ hown⟩
      · exact ⟨x, h, rfl, id⟩
    have hrelN : Rel ι (MD m0 E W N (l.setIfInBounds j true)) w' := by
      refine ⟨fun b hb => ?_, fun b p hp => Nat.lt_of_lt_of_le (hI.rel.low b p hp) hf.size, fun b x hx => ?_, fun b b' x x' p p' hx hx' hne ho hl hp hp' => ?_⟩
      · refine hI.rel.fresh b ?_
        have hb : (MD m0 E W N (l.setIfInBounds j true)).next ≤ b := hb
        unfold MD memL at hb ⊢
        rw [layW_next] at hb ⊢
        exact hb
      · rcases kinds b x ((hMD' b x).1 hx) with ⟨rfl, rfl⟩ | ⟨hne, h2⟩
        · obtain ⟨p, hp, hb⟩ := hr'.blk _ _ hx0
          exact ⟨p, hι2 _ _ hp, hb.mono hι2 rfl⟩
        · by_cases c : V.get b = some x
          · obtain ⟨p, hp, hb⟩ := hr'.blk b x (by rw [hoth b hne]; exact (hmj b x).2 c)
            exact ⟨p, hι2 _ _ hp, hb.mono hι2 rfl⟩
          · obtain ⟨p, hp, hb⟩ := hI.rel.blk b x ((hMD b x).2 h2)
            refine ⟨p, hp, ?_⟩
            by_cases hl : x.live = true
            · exact hb.mono (.refl ι) (hother b x p hne h2 c hp hl)
            · cases x with
              | cells cc esz own =>
                simp [CB.live] at hl
                obtain ⟨rfl, rfl⟩ := hl
                obtain ⟨g1, g2, g3, g4⟩ := hb
                exact ⟨g1, g2, fun i v hv => by simp at hv, fun h => by cases h⟩
              | map es => simp [CB.live] at hl
              | loop l => simp [CB.live] at hl
              | dfr => simp [CB.live] at hl
              | siter s pos => simp [CB.live] at hl
      · obtain ⟨z, hz, ho1, hl1⟩ := early b x ((hMD' b x).1 hx)
        obtain ⟨z', hz', ho2, hl2⟩ := early b' x' ((hMD' b' x').1 hx')
        exact hI.rel.apart b b' z z' p p' ((hMD _ _).2 hz) ((hMD _ _).2 hz') hne (ho1.trans ho) (hl2 hl) hp hp'
    have hfrN : Fr ι0 m0 w0 ι (MD m0 E W N (l.setIfInBounds j true)) w' := by
      refine ⟨hf.os.trans hI.fr.os, hf.tape.trans hI.fr.tape, hf.output.trans hI.fr.output, Nat.le_trans hI.fr.size hf.size, fun B hB hno => ?_, fun b x p hx hp => ?_, fun b x x' hx hx' => ?_, ?_, fun b hb hg => hlowN _ b hb hg, hI.base⟩
      · rw [hf.keep B (Nat.lt_of_lt_of_le hB hI.fr.size) ?_, hI.fr.keep B hB hno]
        intro b1 x1 p1 h1 ho1 hp1 hh
        have h1' := (hMD _ _).2 (hsub _ _ ((hmj b1 x1).1 h1))
        rcases hI.fr.born b1 x1 p1 h1' (Inj.on_some hp1).2 with hs | ⟨b2, x2, p2, q1, q2, q3, q4⟩
        · omega
        · have hx2 : x2.own = true := by
            rcases q4 with rfl | h
            · rw [← hI.fr.stay _ _ _ q1 h1']; exact ho1
            · exact h
          exact hno b2 x2 p2 q1 hx2 q2 (q3.trans hh)
      · obtain ⟨z, hz, _, _⟩ := early b x ((hMD' b x).1 hx)
        exact hI.fr.born b z p ((hMD b z).2 hz) hp
      · exact hlowS _ b x x' hx hx'
      · have := hI.fr.next
        unfold MD memL at this ⊢
        rw [layW_next] at this ⊢
        exact this
    refine done ι w' v' (.refl ι) hrelN hfrN hI.base (fun b p hp => ?_) (fun b x h1 h2 h3 => by omega) (fun t ht h => ?_) ?_
    · rcases hI.dom b p hp with h | ⟨k, hk, hb⟩
      · exact .inl h
      · exact .inr ⟨k, hold' k hk, hb⟩
    · rw [huq t ht h]
      obtain ⟨p, _, hb⟩ := hr'.blk _ _ hx0
      exact hb.sc.mono (hι.trans (Inj.on_mono (.refl ι) (fun b h => .inl h)))
    · exact tr_mono (hι.trans (Inj.on_mono (.refl ι) (fun b h => .inl h))) _ _ hv
  -- the operation
  have hpl := hord.plain j o hst.op
  unfold wpOpIn
  simp only [hst.op]
  rcases hrun with ⟨hg, hv, hm, hWj⟩ | ⟨hg, m', hop, ⟨hWj, hm⟩ | ⟨b0, x0, g1, g2, g3, g8, g9, ⟨z0, g10, g11⟩, g12⟩⟩
  · rw [if_neg (by rw [hguard _ hg]; simp)]
    refine ⟨fun f _ => hF0.fn f, ?_⟩
    have hhi : e.hi = e.lo := by simp [Ent.hi, hm]
    exact fin hWj (ι.on (Sj ops m0 E j)) w undef V (.refl _) hrelJ (by rw [hv]; simp [undef, tr, trL]) (.refl ..) (by rw [hvn]; exact hhi.symm) (fun _ _ => rfl) (fun b x h1 h2 => by omega)
  · rw [if_pos (hguard _ hg)]
    refine hop.masked hpl.1 hpl.2.1 hrelJ hRA hFJ K Q ?_
    intro ι' w' v' hle hr' hv hf
    cases hem : e.m with
    | none =>
      rw [hem] at hm
      have hhi : e.hi = e.lo := by simp [Ent.hi, hem]
      exact fin hWj ι' w' v' m' hle hr' hv hf (by rw [hhi]; exact hm.1) (fun b _ => hm.2 b) (fun b x h1 h2 => by omega)
    | some mm =>
      rw [hem] at hm
      obtain ⟨rfl, hle2⟩ := hm
      have hhi : e.hi = m'.next := by simp [Ent.hi, hem]
      exact fin hWj ι' w' v' m' hle hr' hv hf hhi.symm (fun b hb => hle2.2 b (by rw [hvn]; exact hb)) (fun b x _ _ => by simp [entG, hem])
  · rw [if_pos (hguard _ hg)]
    refine hop.masked hpl.1 hpl.2.1 hrelJ hRA hFJ K Q ?_
    intro ι' w' v' hle hr' hv hf
    exact finL ι' w' v' m' b0 x0 z0 g1 g2 g3 hle hr' hv hf g8 g9 g10 g11 g12
end
end Go.Proofs.Ytjkfleibnojjaaa
end

section
namespace Go.Proofs.Ytjkfleibnojjaaa
open Go
open Classical

section
variable {P : Program} {r : Option Nat} {ops : Array Oper} {N1 N : Nat} {m0 : CM} {a0 : CA} {LI : List (Nat × Nat)} {E : List Ent} {W : List (Nat × Nat × CB)}

theorem Rel.congr {ι : Inj} {m m' : CM} {w : World} (h : Rel ι m w) (hn : m'.next = m.next) (hg : ∀ b, m'.get b = m.get b) : Rel ι m' w :=
  ⟨fun b hb => h.fresh b (by rw [← hn]; exact hb), h.low, fun b x hx => h.blk b x (by rw [← hg]; exact hx), fun b b' x x' p p' hx hx' => h.apart b b' x x' p p' (by rw [← hg]; exact hx) (by rw [← hg]; exact hx')⟩
theorem Fr.congr {ι ι' : Inj} {m m1 m2 : CM} {w w' : World} (h : Fr ι m w ι' m1 w') (hn : m2.next = m1.next) (hg : ∀ b, m2.get b = m1.get b) : Fr ι m w ι' m2 w' :=
  ⟨h.os, h.tape, h.output, h.size, h.keep, fun b x p hx => h.born b x p (by rw [← hg]; exact hx), fun b x x' hx hx' => h.stay b x x' hx (by rw [← hg]; exact hx'), by rw [hn]; exact h.next, fun b hb hx => by rw [hg]; exact h.old b hb hx, h.inj⟩

theorem mem_ready {l : Array Bool} {j : Nat} (hsz : l.size = ops.size) : j ∈ Region.ready .any ops l ↔ j < ops.size ∧ selD l j = false ∧ ∃ o, ops[j]? = some o ∧ ∀ e ∈ o.after.toList, Region.binds .any e = true → selD l e.on = true := by
  unfold Region.ready
  simp only [List.mem_filter, List.mem_range, Bool.and_eq_true, Bool.not_eq_true']
  constructor
  · rintro ⟨h1, h2, h3⟩
    refine ⟨h1, ?_, ?_⟩
    · simp only [selD, Array.getD_eq_getD_getElem?, Array.getElem?_eq_getElem (by rw [hsz]; exact h1 : j < l.size)] at h2 ⊢
      exact h2
    · cases ho : ops[j]? with
      | none => simp [ho] at h3
      | some o =>
        refine ⟨o, rfl, fun e he hb => ?_⟩
        simp only [ho, Option.map_some, Option.getD_some] at h3
        rw [← Array.all_toList, List.all_eq_true] at h3
        have := h3 e he
        rw [hb] at this
        simpa [selD] using this
  · rintro ⟨h1, h2, o, ho, h3⟩
    refine ⟨h1, ?_, ?_⟩
    · simp only [selD, Array.getD_eq_getD_getElem?, Array.getElem?_eq_getElem (by rw [hsz]; exact h1 : j < l.size)] at h2 ⊢
      exact h2
    · simp only [ho, Option.map_some, Option.getD_some]
      rw [← Array.all_toList, List.all_eq_true]
      intro e he
      cases hb : Region.binds .any e with
      | false => rfl
      | true => have := h3 e he hb; simpa [selD] using this

def unl (n : Nat) (l : Array Bool) : Nat := ((List.range n).filter fun i => !selD l i).length
theorem filter_lt {p q : Nat → Bool} : ∀ (L : List Nat), (∀ i, q i = true → p i = true) → (∃ i ∈ L, p i = true ∧ q i = false) → (L.filter q).length < (L.filter p).length
  | [], _, h => by obtain ⟨i, hi, _⟩ := h; cases hi
  | a :: L, hpq, h => by
    have hle : ∀ (L : List Nat), (L.filter q).length ≤ (L.filter p).length := by
      intro L
      induction L with
      | nil => simp
      | cons a L ih =>
        simp only [List.filter_cons]
        by_cases c : q a = true
        · rw [if_pos c, if_pos (hpq a c)]; simp; exact ih
        · rw [if_neg c]; split
          · simp; omega
          · exact ih
    obtain ⟨i, hi, h1, h2⟩ := h
    simp only [List.filter_cons]
    cases hi with
    | head =>
      rw [if_neg (by rw [h2]; simp), if_pos h1]
      simp; have := hle L; omega
    | tail _ hi =>
      have ih := filter_lt L hpq ⟨i, hi, h1, h2⟩
      by_cases c : q a = true
      · rw [if_pos c, if_pos (hpq a c)]; simp; omega
      · rw [if_neg c]; split
        · simp; omega
        · exact ih
theorem unl_set {l : Array Bool} {j : Nat} (hj : j < ops.size) (hsz : l.size = ops.size) (hn : selD l j = false) : unl ops.size (l.setIfInBounds j true) < unl ops.size l := by
  have hsel' : ∀ i, selD (l.setIfInBounds j true) i = (selD l i || (i == j)) := by
    intro i
    simp only [selD, Array.getD_eq_getD_getElem?, Array.getElem?_setIfInBounds]
    by_cases c : j = i
    · subst c; rw [if_pos rfl, if_pos (by rw [hsz]; exact hj)]; simp
    · rw [if_neg c]
      have : (i == j) = false := by simpa using (fun h => c h.symm)
      simp [this]
  refine filter_lt _ (fun i hi => ?_) ⟨j, List.mem_range.2 hj, by simp [hn], by simp [hsel']⟩
  rw [hsel'] at hi
  simp only [Bool.not_eq_true', Bool.or_eq_false_iff] at hi ⊢
  exact hi.1

/-- The operations that come last, one behind the other. -/
theorem tail_any (hord : Ord ops N1) {F : Fence} {Q : Exit → Act → World → Prop} : ∀ (d k fuel : Nat) (l : Array Bool) (aw : Act) (w : World), ops.size - k = d → k ≤ ops.size → N1 ≤ k → l.size = ops.size → (∀ i, selD l i = true ↔ i < k) → d ≤ fuel →
    wpOpsIn F 0 P ops Q ((List.range ops.size).drop k) aw w → wpAnyIn F 0 P .any ops Q fuel l aw w
  | 0, k, fuel, l, aw, w, hd, hk, hN, hsz, hl, hf, h => by
    have hk' : k = ops.size := by omega
    have hr : Region.ready .any ops l = [] := by
      rw [List.eq_nil_iff_forall_not_mem]
      intro j hj
      obtain ⟨h1, h2, _⟩ := (mem_ready hsz).1 hj
      have := (hl j).2 (by omega)
      rw [h2] at this; cases this
    have hnil : (List.range ops.size).drop k = [] := by rw [List.drop_eq_nil_of_le (by simp; omega)]
    rw [hnil] at h
    have hq : Q .normal aw w := h
    cases fuel with
    | zero => exact ⟨hr, hq⟩
    | succ fuel => exact ⟨fun _ => hq, fun i hi => (by rw [hr] at hi; cases hi)⟩
  | d + 1, k, fuel, l, aw, w, hd, hk, hN, hsz, hl, hf, h => by
    have hlt : k < ops.size := by omega
    cases fuel with
    | zero => omega
    | succ fuel =>
      have hcons : (List.range ops.size).drop k = k :: (List.range ops.size).drop (k + 1) := by
        rw [List.drop_eq_getElem_cons (by simpa using hlt)]; simp
      rw [hcons, wpOpsIn_cons] at h
      have honly : ∀ i, i ∈ Region.ready .any ops l → i = k := by
        intro i hi
        obtain ⟨h1, h2, o, ho, h3⟩ := (mem_ready hsz).1 hi
        have hik : k ≤ i := by
          apply Nat.le_of_not_lt; intro hc
          have := (hl i).2 hc
          rw [h2] at this; cases this
        apply Nat.le_antisymm _ hik
        apply Nat.le_of_not_lt; intro hc
        have ht := hord.tail i h1 (by omega) k hc
        obtain ⟨e, he, hb, hor⟩ := hord.src i o ho k ht
        have hon := h3 e he hb
        have honk : e.on < k := (hl _).1 hon
        rcases hor with rfl | hor
        · omega
        · have := hord.low e.on (by omega) k hor; omega
      have hkr : k ∈ Region.ready .any ops l := by
        refine (mem_ready hsz).2 ⟨hlt, ?_, ops[k], Array.getElem?_eq_getElem hlt, fun e he hb => ?_⟩
        · cases hh : selD l k with
          | false => rfl
          | true => have := (hl k).1 hh; omega
        · exact (hl _).2 (hord.edge k _ (Array.getElem?_eq_getElem hlt) e he hb).1
      refine ⟨fun hnil => (by rw [hnil] at hkr; cases hkr), fun i hi => ?_⟩
      have := honly i hi
      subst this
      refine wpOpIn_mono (fun aw w hh => tail_any hord d (i + 1) fuel _ aw w (by omega) (by omega) (by omega) (by simp [hsz]) (fun q => ?_) (by omega) hh) h
      simp only [selD, Array.getD_eq_getD_getElem?, Array.getElem?_setIfInBounds]
      by_cases c : i = q
      · subst c; rw [if_pos rfl, if_pos (by rw [hsz]; exact hlt)]; simp
      · rw [if_neg c]
        have := hl q
        simp only [selD, Array.getD_eq_getD_getElem?] at this
        rw [this]; omega

theorem draw_any (hL : LateOK ops m0 a0 E W) (hord : Ord ops N1) (hlen : E.length = N1) (hc : Chain m0.next E N) (hst : ∀ (j : Nat) (e : Ent), E[j]? = some e → ∃ o, StepOK P r ops m0 a0 LI E W j e o) {ι0 : Inj} {w0 : World} (hr0 : Rel ι0 m0 w0) {F : Fence} (hF0 : FR ι0 r F)
    {e : Exit} {a' : CA} {m' : CM} (htail : CEvOps P r ops ((List.range ops.size).drop N1) (putE ops 0 E a0) (memL m0 E W (fun _ => true) N) e a' m') (Q : Exit → Act → World → Prop) (hQ : ∀ e' aw' w', After ι0 m0 w0 e a' m' e' aw' w' → Q e' aw' w') :
    ∀ (fuel : Nat) (l : Array Bool) (ι : Inj) (aw : Act) (w : World), unl ops.size l ≤ fuel → DInv ops N1 N m0 a0 E W ι0 w0 l ι aw w → wpAnyIn F 0 P .any ops Q fuel l aw w := by
  have h0 : ∀ b x, m0.get b = some x → b < m0.next := fun b x h => hr0.lt h
  -- all of the first part is done
  have done : ∀ (fuel : Nat) (l : Array Bool) (ι : Inj) (aw : Act) (w : World), unl ops.size l ≤ fuel → DInv ops N1 N m0 a0 E W ι0 w0 l ι aw w → (∀ k, k < N1 → selD l k = true) → wpAnyIn F 0 P .any ops Q fuel l aw w := by
    intro fuel l ι aw w hf hI hall
    have hsel : ∀ k, selD l k = true ↔ k < N1 := fun k => ⟨fun h => (hI.down k h).1, hall k⟩
    have hgetall : ∀ b, (memL m0 E W (fun _ => true) N).get b = (MD m0 E W N l).get b := by
      intro b
      have h1 := fun x => memL_iff (W := W) hc h0 hL.pair (fun _ => true) N b x
      have h2 := fun x => memL_iff (W := W) hc h0 hL.pair (selD l) N b x
      have km : ∀ x, inM m0 E (fun _ => true) b x ↔ inM m0 E (selD l) b x := by
        intro x
        constructor
        · rintro (h | ⟨k, f, _, hf, h⟩)
          · exact .inl h
          · exact .inr ⟨k, f, hall k (by have := (List.getElem?_eq_some_iff.1 hf).1; omega), hf, h⟩
        · rintro (h | ⟨k, f, _, hf, h⟩)
          · exact .inl h
          · exact .inr ⟨k, f, rfl, hf, h⟩
      have hW1 : ∀ t ∈ W, selD l t.1 = true := fun t ht => hall _ (by have := hL.lt t ht; omega)
      have key : ∀ x, (memL m0 E W (fun _ => true) N).get b = some x ↔ (MD m0 E W N l).get b = some x := by
        intro x
        rw [h1 x]
        show _ ↔ (memL m0 E W (selD l) N).get b = some x
        rw [h2 x]
        unfold inL
        simp only [km]
        constructor
        · rintro (⟨t, ht, _, h⟩ | ⟨hno, h⟩)
          · exact .inl ⟨t, ht, hW1 t ht, h⟩
          · exact .inr ⟨fun t ht hh => hno t ht ⟨trivial, hh.2⟩, h⟩
        · rintro (⟨t, ht, _, h⟩ | ⟨hno, h⟩)
          · exact .inl ⟨t, ht, trivial, h⟩
          · exact .inr ⟨fun t ht hh => hno t ht ⟨hW1 t ht, hh.2⟩, h⟩
      cases hh : (memL m0 E W (fun _ => true) N).get b with
      | none =>
        cases hg : (MD m0 E W N l).get b with
        | none => rfl
        | some x => rw [(key x).2 hg] at hh; cases hh
      | some x => exact ((key x).1 hh).symm
    have hnxt : (memL m0 E W (fun _ => true) N).next = (MD m0 E W N l).next := by unfold MD memL; rw [layW_next, layW_next]; rfl
    have hrelA : Rel ι (memL m0 E W (fun _ => true) N) w := hI.rel.congr hnxt hgetall
    have hfrA : Fr ι0 m0 w0 ι (memL m0 E W (fun _ => true) N) w := hI.fr.congr hnxt hgetall
    have hleι : ι0.le ι := by
      intro b p hb
      have hlt : b < m0.next := by
        apply Nat.lt_of_not_le; intro hge; rw [hr0.fresh b hge] at hb; cases hb
      rw [hI.base b hlt]; exact hb
    have hact : RelA ι (putE ops 0 E a0) aw := by
      refine ⟨by rw [putE_n]; exact hI.size, fun t => ?_, by rw [putE_ds]; exact trDs_mono hleι hI.ds⟩
      rcases putE_ρ ops E 0 a0 t with ⟨k, f, hk, hd, hv⟩ | ⟨hno, hv⟩
      · rw [hv]
        simp only [Nat.zero_add] at hd
        have hkN := (List.getElem?_eq_some_iff.1 hk).1
        exact tr_mono (Inj.on_le _ _) _ _ (hI.wr t k f (hall k (by omega)) hk hd)
      · rw [hv]
        refine tr_mono hleι _ _ (hI.nowr t (fun k hk hh => ?_))
        have := (hI.down k hk).1
        exact hno k (by omega) (by simpa using hh)
    have hunl : unl ops.size l = ops.size - N1 := by
      have hN := hord.le
      have : ∀ n, N1 ≤ n → ((List.range n).filter fun i => !selD l i).length = n - N1 := by
        intro n hn
        induction n with
        | zero => simp
        | succ n ih =>
          rw [List.range_succ, List.filter_append, List.length_append]
          by_cases c : N1 ≤ n
          · rw [ih c]
            have : selD l n = false := by
              cases hh : selD l n with
              | false => rfl
              | true => have := (hsel n).1 hh; omega
            simp [this]; omega
          · have hnN : N1 = n + 1 := by omega
            have e1 : (List.range n).filter (fun i => !selD l i) = [] := by
              rw [List.filter_eq_nil_iff]
              intro i hi
              have := hall i (by have := List.mem_range.1 hi; omega)
              simp [this]
            have e2 : selD l n = true := hall n (by omega)
            rw [e1]; simp [e2]; omega
      exact this _ hN
    refine tail_any hord (ops.size - N1) N1 fuel l aw w rfl hord.le (Nat.le_refl _) hI.lsz hsel (by omega) ?_
    exact htail ι w aw F hrelA hact (hF0.mono hleι) Q (fun e' aw' w' hh => hQ e' aw' w' (hh.trans hr0 hrelA hleι hfrA))
  intro fuel
  induction fuel with
  | zero =>
    intro l ι aw w hf hI
    by_cases hall : ∀ k, k < N1 → selD l k = true
    · exact done 0 l ι aw w hf hI hall
    · exfalso
      apply hall
      intro k hk
      cases hh : selD l k with
      | true => rfl
      | false =>
        have hz : (List.range ops.size).filter (fun i => !selD l i) = [] := List.length_eq_zero_iff.1 (Nat.le_zero.1 hf)
        rw [List.filter_eq_nil_iff] at hz
        have := hz k (List.mem_range.2 (Nat.lt_of_lt_of_le hk hord.le))
        simp [hh] at this
  | succ fuel ih =>
    intro l ι aw w hf hI
    by_cases hall : ∀ k, k < N1 → selD l k = true
    · exact done (fuel + 1) l ι aw w hf hI hall
    · have hpre : ∀ j o, ops[j]? = some o → (∀ e ∈ o.after.toList, Region.binds .any e = true → selD l e.on = true) → ∀ i, selJ ops j i = true → selD l i = true := by
        intro j o ho hed i hi
        obtain ⟨e, he, hb, hor⟩ := hord.src j o ho i hi
        have hon := hed e he hb
        rcases hor with rfl | h
        · exact hon
        · exact (hI.down _ hon).2 i h
      -- somebody is ready
      have hready : Region.ready .any ops l ≠ [] := by
        intro hnil
        apply hall
        intro k
        induction k using Nat.strongRecOn with
        | _ k ihk =>
          intro hk
          cases hh : selD l k with
          | true => rfl
          | false =>
            exfalso
            have hks : k < ops.size := Nat.lt_of_lt_of_le hk hord.le
            have : k ∈ Region.ready .any ops l := (mem_ready hI.lsz).2 ⟨hks, hh, ops[k], Array.getElem?_eq_getElem hks, fun e he hb => by
              have hlt := (hord.edge k _ (Array.getElem?_eq_getElem hks) e he hb).1
              exact ihk e.on hlt (by omega)⟩
            rw [hnil] at this; cases this
      refine ⟨fun h => absurd h hready, fun j hj => ?_⟩
      obtain ⟨hjs, hnl, o, ho, hed⟩ := (mem_ready hI.lsz).1 hj
      have hp := hpre j o ho hed
      have hjN : j < N1 := by
        apply Nat.lt_of_not_le; intro hc2
        apply hall
        intro k hk
        exact hp k (hord.tail j hjs hc2 k (by omega))
      obtain ⟨en, hen⟩ : ∃ en, E[j]? = some en := ⟨E[j]'(by omega), List.getElem?_eq_getElem (by omega)⟩
      obtain ⟨o', hso⟩ := hst j en hen
      refine step_ok (LI := LI) hL hord hlen hc hr0 hF0 hI hen hnl hp hso Q _ ?_
      intro ι' aw' w' hI'
      exact ih _ ι' aw' w' (by have := unl_set hjs hI.lsz hnl; omega) hI'

theorem lookN_ok {LI : List (Nat × Nat)} (h : (LI.all fun p => lateOk ops p.2 p.1) = true) {j i : Nat} (hl : lookN LI j = some i) : lateOk ops i j = true := by
  induction LI with
  | nil => cases hl
  | cons p LI ih =>
    simp only [List.all_cons, Bool.and_eq_true] at h
    obtain ⟨j', i'⟩ := p
    simp only [lookN] at hl
    split at hl
    · rename_i hb
      have := Nat.eq_of_beq_eq_true hb
      subst this; cases hl; exact h.1
    · exact ih h.2 hl
/-- A region whose order the machine draws. -/
def drw (P : Program) (r : Option Nat) (id : Nat) (ops : Array Oper) (Q : Exit → CA → CM → Prop) (a : CA) (m : CM) : Prop :=
  ∃ e a' m', CEvC P r (.region id ops true) a m e a' m' ∧ a'.n = a.n ∧ Q e a' m'

/-- A REGION WHOSE ORDER IS DRAWN: the plain run in the text's order up to N1, and then the rest, serve every order. -/
theorem drw_of {id : Nat} {Q : Exit → CA → CM → Prop} {a : CA} {m : CM} (N1 : Nat) (LI : List (Nat × Nat)) (hLI : (LI.all fun p => lateOk ops p.2 p.1) = true) (hm : P.follows .mixedOrders = true) (hok : drawOk ops N1 = true) (hds : (ops.toList.all fun o => dOk a.n o.dst) = true)
    (h : drawGo P ops m LI (fun a' m' => wpcOps P r ops ((List.range ops.size).drop N1) Q a' m') N1 [] [] a m.next) : drw P r id ops Q a m := by
  have hord := ord_of hok
  obtain ⟨E, W, N, hlen, hc, hst, hWlt, hWp, hk⟩ := drawGo_trace (r := r) (a0 := a) (fun j o ho => (hord.plain j o ho).2.2) (fun j i hj hs => hord.low j hj i hs) N1 [] [] a m.next h rfl rfl (fun j e hj => by simp at hj) (fun t ht => by simp at ht) .nil
  have hlate : ∀ t ∈ W, ∃ i, lookN LI t.1 = some i ∧ ((i ≠ t.1 ∧ ∃ f, E[i]? = some f ∧ f.lo ≤ t.2.1 ∧ t.2.1 < f.hi) ∨ (i = t.1 ∧ t.2.1 < m.next ∧ (∃ z, m.get t.2.1 = some z ∧ z.own = true) ∧ apartL ((lateT ops t.1).map (putE ops 0 (E.take t.1) a).ρ) t.2.1)) ∧ t.2.2.own = true ∧ ∀ u ∈ W, u.1 = t.1 → u = t := by
    intro t ht
    have hlt := hWlt t ht
    obtain ⟨o, hso⟩ := hst t.1 E[t.1] (List.getElem?_eq_getElem hlt)
    rcases hso.run with ⟨_, _, _, hno⟩ | ⟨_, V, m', _, _, ⟨hno, _⟩ | ⟨b, x, i, g1, g2, g3, g4, g5, g6, _⟩⟩
    · exact absurd rfl (hno t ht)
    · exact absurd rfl (hno t ht)
    · have e := g2 t ht rfl
      have e1 : t.2.1 = b := by rw [e]
      have e2 : t.2.2 = x := by rw [e]
      exact ⟨i, g4, by rw [e1]; exact g5, by rw [e2]; exact g6, fun u hu he => (g2 u hu he).trans e.symm⟩
  have hL : LateOK ops m a E W := by
    refine ⟨hWp, hWlt, fun t ht => ?_, fun t ht => ?_, fun t ht u hu he => ?_⟩
    · obtain ⟨i, h4, h5, _⟩ := hlate t ht
      have hok2 := lookN_ok hLI h4
      unfold lateOk at hok2
      rcases h5 with ⟨hne, f, h1, h2, h3⟩ | ⟨rfl, h1, h2, h3⟩
      · have hbe : Nat.beq i t.1 = false := by
          cases hb : Nat.beq i t.1 with
          | false => rfl
          | true => exact absurd (Nat.eq_of_beq_eq_true hb) hne
        simp only [hbe, Bool.and_eq_true, List.all_eq_true, List.mem_range, Bool.or_eq_true, Bool.not_eq_true', beq_iff_eq] at hok2
        refine .inl ⟨i, f, h1, h2, h3, hok2.1, fun k hk hs => ?_⟩
        rcases hok2.2 k hk with ((h | h) | h) | h
        · unfold selJ at hs; rw [h] at hs; cases hs
        · exact .inl h
        · exact .inr (.inl h)
        · exact .inr (.inr h)
      · have hbe : Nat.beq t.1 t.1 = true := Nat.beq_refl _
        simp only [hbe, List.all_eq_true, List.mem_range, Bool.or_eq_true, Bool.not_eq_true'] at hok2
        refine .inr ⟨h1, h2, fun k hk => ?_⟩
        rcases hok2 k hk with h | h
        · unfold unord at h
          simp only [Bool.not_eq_false', Bool.or_eq_true] at h
          rcases h with (h | h) | h
          · exact .inl (Nat.eq_of_beq_eq_true h)
          · exact .inr (.inl h)
          · exact .inr (.inr (.inl h))
        · cases hu : unord ops t.1 k with
          | false =>
            unfold unord at hu
            simp only [Bool.not_eq_false', Bool.or_eq_true] at hu
            rcases hu with (h | h) | h
            · exact .inl (Nat.eq_of_beq_eq_true h)
            · exact .inr (.inl h)
            · exact .inr (.inr (.inl h))
          | true =>
          refine .inr (.inr (.inr ?_))
          split at h
          · rename_i o ho
            refine ⟨o, ho, ?_⟩
            simp only [Bool.or_eq_true, Bool.and_eq_true] at h
            rcases h with h | ⟨hkj, h⟩
            · exact .inl h
            · have hkj' : k < t.1 := by simpa [Nat.blt_eq] using hkj
              cases hrd : rdTmp o.op with
              | none => rw [hrd] at h; cases h
              | some u =>
                rw [hrd] at h
                simp only [List.all_eq_true, List.mem_range, Bool.or_eq_true, bne_iff_ne] at h
                have hmem : u ∈ lateT ops t.1 := by
                  unfold lateT
                  rw [List.mem_filterMap]
                  exact ⟨k, List.mem_range.2 hkj', by simp only [hu, ho, Option.bind_some, hrd]⟩
                have hap : ∀ {l : List Value} {b : Nat}, apartL l b → ∀ v ∈ l, (∃ c oo, v = .pointer (some ⟨c, oo, none⟩) ∧ c ≠ b) ∨ v = .tuple ⟨[]⟩ := by
                  intro l
                  induction l with
                  | nil => intro b _ v hv; cases hv
                  | cons v0 l ih =>
                    intro b hl v hv
                    obtain ⟨g1, g2⟩ := hl
                    rcases List.mem_cons.1 hv with rfl | hv
                    · split at g1
                      · exact .inl ⟨_, _, rfl, g1⟩
                      · exact .inr rfl
                      · exact g1.elim
                    · exact ih g2 v hv
                have hpt := hap h3 _ (List.mem_map_of_mem hmem)
                -- no one writes between
                have same : ∀ (d : Nat), k + d ≤ t.1 → (putE ops 0 (E.take (k + d)) a).ρ u = (putE ops 0 (E.take k) a).ρ u := by
                  intro d
                  induction d with
                  | zero => intro _; rfl
                  | succ d ih =>
                    intro hd
                    have hlt := hWlt t ht
                    have hkd : k + d < E.length := by omega
                    rw [← Nat.add_assoc, List.take_add_one, List.getElem?_eq_getElem hkd]
                    simp only [Option.toList_some]
                    rw [putE_append, put_ρ, if_neg, ih (by omega)]
                    rw [Nat.zero_add, List.length_take, Nat.min_eq_left (by omega)]
                    rcases h (k + d) (by omega) with h | h
                    · simp [Nat.blt_eq] at h; omega
                    · exact h
                have := same (t.1 - k) (by omega)
                rw [show k + (t.1 - k) = t.1 by omega] at this
                rcases hpt with ⟨c, oo, g1, g2⟩ | g1
                · refine .inr (.inl ⟨u, c, oo, rfl, ?_, g2⟩)
                  rw [← g1]; exact this.symm
                · refine .inr (.inr ⟨u, rfl, ?_⟩)
                  rw [← g1]; exact this.symm
          · cases h
    · obtain ⟨_, _, _, h, _⟩ := hlate t ht
      exact h
    · obtain ⟨_, _, _, _, h⟩ := hlate u hu
      exact h t ht he
  obtain ⟨e, a', m', htail, hQ⟩ := wpcOps_sound (r := r) (fun o ho => by
    obtain ⟨j, hj⟩ := List.getElem?_of_mem ho
    exact .inl (hord.plain j o (by rw [← Array.getElem?_toList]; exact hj)).2.2) (n := a.n) (by simpa only [List.all_eq_true] using hds) _ _ _ _ (putE_n ..) hk
  refine ⟨e, a', m', ?_, hQ⟩
  intro ι w aw F hr ha hF
  refine wpIn_region_any hm ?_
  refine draw_any (LI := LI) hL hord (by simpa using hlen) hc hst hr.drew (F := F) hF htail _ (fun e' aw' w' hh => ?_) ops.size _ ι aw _ ?_ ?_
  · obtain ⟨ι', h1, h2, h3, h4, h5⟩ := hh
    exact ⟨ι', h1, h2, h3, h4, h5.of_drew⟩
  · unfold unl
    exact Nat.le_trans (List.length_filter_le _ _) (by simp)
  · have hf : ∀ k, selD (Array.replicate ops.size false) k = false := by
      intro k
      simp only [selD, Array.getD_eq_getD_getElem?, Array.getElem?_replicate]
      split <;> rfl
    have hN : m.next ≤ N := hc.le
    have h0 : ∀ b x, m.get b = some x → b < m.next := fun b x h => hr.lt h
    have hg : ∀ b, (MD m E W N (Array.replicate ops.size false)).get b = m.get b := by
      intro b
      have key : ∀ x, (MD m E W N (Array.replicate ops.size false)).get b = some x ↔ m.get b = some x := by
        intro x
        show (memL m E W (selD (Array.replicate ops.size false)) N).get b = some x ↔ _
        rw [memL_iff hc h0 hL.pair]
        constructor
        · rintro (⟨t, ht, hs, _⟩ | ⟨_, h | ⟨k, f, hs, _⟩⟩)
          · rw [hf] at hs; cases hs
          · exact h.2
          · rw [hf k] at hs; cases hs
        · intro h; exact .inr ⟨fun t ht hh => (by have := hh.1; rw [hf] at this; cases this), .inl ⟨h0 b x h, h⟩⟩
      cases hh : (MD m E W N (Array.replicate ops.size false)).get b with
      | none =>
        cases hg : m.get b with
        | none => rfl
        | some x => rw [(key x).2 hg] at hh; cases hh
      | some x => exact ((key x).1 hh).symm
    have hMDn : (MD m E W N (Array.replicate ops.size false)).next = N := by unfold MD memL; rw [layW_next]; rfl
    have hrd := hr.drew
    have hrel : Rel ι (MD m E W N (Array.replicate ops.size false)) w.drew :=
      ⟨fun b hb => hrd.fresh b (Nat.le_trans hN (by rw [hMDn] at hb; exact hb)), hrd.low, fun b x hx => hrd.blk b x (by rw [← hg]; exact hx), fun b b' x x' p p' hx hx' => hrd.apart b b' x x' p p' (by rw [← hg]; exact hx) (by rw [← hg]; exact hx')⟩
    refine ⟨hrel, fun _ _ => rfl, fun b p hp => ?_, fun k e b x hk => (by rw [hf k] at hk; cases hk), fun t _ hk => (by rw [hf] at hk; cases hk), ha.size, fun t k e hk => (by rw [hf k] at hk; cases hk), fun t _ => ha.tmps t, ha.ds, ?_, fun k hk => (by rw [hf k] at hk; cases hk), by simp, by simpa only [List.all_eq_true] using hds⟩
    · left
      apply Nat.lt_of_not_le; intro hge
      rw [hr.fresh b hge] at hp; cases hp
    · exact ⟨rfl, rfl, rfl, Nat.le_refl _, fun _ _ _ => rfl, fun b x p hx hp => .inr ⟨b, x, p, by rw [← hg]; exact hx, hp, rfl, .inl rfl⟩, fun b x x' hx hx' => (by rw [hg] at hx'; rw [hx] at hx'; cases hx'; rfl), by rw [hMDn]; exact hN, fun b hb hx => by rw [hg]; exact hx, fun _ _ => rfl⟩
end
end Go.Proofs.Ytjkfleibnojjaaa
end
