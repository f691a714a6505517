/- Part 5 of 23 of the proof that the law TopAnewStore returns true and leaves its argument as it read before, for every input that the bounded statement admits (what it reads is of bulk at most 1048576). -/
import Derived.OpenShut
import Derived.DataShut
import Derived.DataReads
import Derived.Laws.RangeString
import Derived.Laws.RangeAny
import Derived.Test.YtjkfleibnojjaaaP04
section
namespace Go.Proofs.Ytjkfleibnojjaaa
open Go

/-! ### What is left of a memory -/
theorem CEvCall.forget {P : Program} {f : FuncId} {args : List Value} {m m' m'' : CM} {e : CE} (h : CEvCall P f args m e m') (hn : m''.next = m'.next) (hg : ∀ b x, m''.get b = some x → m'.get b = some x) : CEvCall P f args m e m'' := by
  refine ⟨h.1, fun ι w args' hr ht => (h.2 ι w args' hr ht).mono ?_⟩
  rintro e' w' ⟨ι', hle, hr', he, hf⟩
  refine ⟨ι', hle, ⟨fun b hb => hr'.fresh b (by omega), hr'.low, fun b x hx => hr'.blk b x (hg b x hx), fun b b' x x' p p' hx hx' => hr'.apart b b' x x' p p' (hg _ _ hx) (hg _ _ hx')⟩, he,
    ⟨hf.os, hf.tape, hf.output, hf.size, hf.keep, fun b x p hx => hf.born b x p (hg _ _ hx), fun b x x' hx hx' => hf.stay b x x' hx (hg _ _ hx'), by rw [hn]; exact hf.next, fun b hb hx => ?_, hf.inj⟩⟩
  cases hh : m''.get b with
  | none => rfl
  | some x => have := hg _ _ hh; rw [hf.old b hb hx] at this; cases this
theorem callw_forget {P : Program} {f : FuncId} {args : List Value} {m : CM} {K : Value → CM → Prop} {Kp : List PanicEntry → CM → Prop}
    (h : callw P f args m (fun v m' => ∃ m'', m''.next = m'.next ∧ (∀ b x, m''.get b = some x → m'.get b = some x) ∧ K v m'') Kp) : callw P f args m K Kp := by
  obtain ⟨e, m', hc, hk⟩ := h
  cases e with
  | ret v => obtain ⟨m'', hn, hg, hk⟩ := hk; exact ⟨.ret v, m'', hc.forget hn hg, hk⟩
  | pan c => exact ⟨.pan c, m', hc, hk⟩
/-- A memory as the harness meets it: nothing but what can be named anew. -/
def Clean (m : CM) : Prop := ∀ b x, m.get b = some x → b < m.next ∧ ∀ σ : Nat → Nat, (∀ c, c < m.next → σ c = c) → renB σ x = some x
theorem Clean.none {m : CM} (h : Clean m) {b : Nat} (hb : m.next ≤ b) : m.get b = none := by
  cases hh : m.get b with
  | none => rfl
  | some x => have := (h b x hh).1; omega
/-- The memory m, of another age. -/
def CM.aged (m : CM) (n : Nat) : CM := { m with next := n }
theorem get_aged (m : CM) (n b : Nat) : (m.aged n).get b = m.get b := rfl
theorem Clean.aged {m : CM} (h : Clean m) {n : Nat} (hn : m.next ≤ n) : Clean (m.aged n) := fun b x hx => by
  obtain ⟨h1, h3⟩ := h b x hx
  exact ⟨Nat.lt_of_lt_of_le h1 hn, fun σ hs => h3 σ fun c hc => hs c (Nat.lt_of_lt_of_le hc hn)⟩
theorem Clean.alloc {m : CM} (h : Clean m) {c : List Value} {e : Nat} (hc : ∀ σ : Nat → Nat, (∀ c, c < m.next → σ c = c) → c.map (ren σ) = c) : Clean (m.alloc (.cells c e true)) := fun b x hx => by
  rw [CM.get_alloc] at hx
  split at hx
  · rename_i e; cases hx
    exact ⟨by simp; omega, fun σ hs => by simp only [renB]; rw [hc σ fun c hc => hs c (by simp; omega)]⟩
  · obtain ⟨h1, h3⟩ := h b x hx
    exact ⟨by simp; omega, fun σ hs => h3 σ fun c hc => hs c (by simp; omega)⟩
/-- A call whose answer bears no address, and that leaves all as it is. -/
theorem callw_clean {P : Program} {f : FuncId} {args : List Value} {m : CM} (hm : Clean m) {K : Value → CM → Prop} {Kp : List PanicEntry → CM → Prop} {Q : Value → Prop}
    (h : callw P f args m (fun v m' => m.le m' ∧ Q v) (fun _ _ => False)) (hK : ∀ v n, m.next ≤ n → Q v → K v (m.aged n)) : callw P f args m K Kp := by
  refine callw_forget (callw_mono h ?_ (fun _ _ h => h.elim))
  rintro v m' ⟨hle, hq⟩
  refine ⟨m.aged m'.next, rfl, fun b x hx => ?_, hK v _ hle.1 hq⟩
  rw [get_aged] at hx
  rw [hle.2 b (hm b x hx).1]; exact hx

mutual
theorem ren_id : ∀ v : Value, ren (fun b => b) v = v
  | .bool b => by simp [ren]
  | .int k n => by simp [ren]
  | .float _ _ => by simp [ren]
  | .complex _ _ _ => by simp [ren]
  | .string s => by simp [ren]
  | .pointer none => by simp [ren]
  | .pointer (some a) => by simp [ren, renA]
  | .slice none l k => by simp [ren]
  | .slice (some a) l k => by simp [ren, renA]
  | .map none => by simp [ren]
  | .map (some r) => by simp [ren]
  | .chan _ => by simp [ren]
  | .func fn ⟨f⟩ ⟨c⟩ => by simp only [ren, renL_id f, renL_id c]; cases fn <;> rfl
  | .nilFunc => by simp [ren]
  | .iface t v => by simp only [ren, ren_id v]
  | .nilIface => by simp [ren]
  | .agg ⟨l⟩ => by simp only [ren, renL_id l]
  | .tuple ⟨l⟩ => by simp only [ren, renL_id l]
theorem renL_id : ∀ l : List Value, renL (fun b => b) l = l
  | [] => rfl
  | v :: l => by simp only [renL, ren_id v, renL_id l]
end
theorem map_ren_id (l : List Value) : l.map (ren fun b => b) = l := by rw [← renL_map, renL_id]

/-- What a called closure of the harness leaves: its results in the heap h; how they are written over. -/
structure CloPost (P : Program) (m : CM) (h : Nat) (v : Value) (m1 : CM) : Prop where
  ex : ∃ vn vs bn bs cn cs, ∃ W : Nat → Prop, ∃ g2 cs2, HV m1 vn bn cn ∧ HV m1 vs bs cs ∧ Own m1 h [vn, vs] 0 ∧ (cn.length ≤ lim ∧ cs.length ≤ lim) ∧ (∀ u ∈ cn, ∃ n, u = .int .i64 n) ∧ (∀ u ∈ cs, ∃ n, u = .string n) ∧
    (m.next ≤ m1.next ∧ ∀ x, x < m.next → x ≠ h → m1.get x = m.get x) ∧ (∀ y, bn = some y → m.next ≤ y ∧ ¬ W y) ∧ (∀ y, bs = some y → m.next ≤ y ∧ ¬ W y) ∧ (∀ x, W x → m.next ≤ x) ∧
    v = .func (.func g2) ⟨[]⟩ ⟨cs2⟩ ∧ ∀ M : CM, m1.next = M.next → (∀ x c e o, m.next ≤ x → x < m1.next → m1.get x = some (.cells c e o) → M.get x = some (.cells c e o)) →
      callw P g2 cs2 M (fun _ M2 => M.next ≤ M2.next ∧ ∀ x, x < M.next → ¬ W x → M2.get x = M.get x) (fun _ _ => False)

section
variable {P : Program} {I Str T0 T1 H : TypeId}
def sAgain (P : Program) (H : TypeId) (gs : FuncId) (R : CE → CM → Prop) (a0 : Value) (m : CM) : Prop :=
  alw P H m (fun t3 m => alw P H m (fun t4 m => callv P a0 [t3] m (fun t7 m => callv P t7 [] m (fun _ m => callv P a0 [t4] m (fun _ m => pop (cload P H t3 m) m (fun t12 m => pop (cload P H t4 m) m (fun t13 m => callw P gs [t12, t13] m (fun t14 m => leaveV P [.v t14] [] .ret m R) (fun ch m => R (.pan ch) m)))) (fun ch m => R (.pan ch) m)) (fun ch m => R (.pan ch) m)) (fun ch m => R (.pan ch) m)))
theorem HV.ren {m1 M : CM} {v : Value} {b : Option Nat} {c : List Value} (h : HV m1 v b c) {σ : Nat → Nat} (hn : ∀ y, b = some y → σ y < M.next) (hg : ∀ y, b = some y → M.get (σ y) = (m1.get y).bind (renB σ)) (hc : ∀ u ∈ c, Ytjkfleibnojjaaa.ren σ u = u) : HV M (Ytjkfleibnojjaaa.ren σ v) (b.map σ) c := by
  cases h with
  | nil => simp only [Ytjkfleibnojjaaa.ren]; exact .nil
  | blk h =>
    rename_i b
    simp only [Ytjkfleibnojjaaa.ren, renA]
    refine .blk ⟨hn _ rfl, ?_⟩
    rw [hg _ rfl, h.2]
    simp only [Option.bind_some, renB]
    rw [show c.map (Ytjkfleibnojjaaa.ren σ) = c from by rw [List.map_congr_left hc]; simp]
theorem again_ok (ht : HeapT P I Str T0 T1 H) (ze : zeroL P H = some [.slice none 0 0, .slice none 0 0]) (agH : aggB P H = some true) (szH : szOf P H = some 2) {gs : FuncId} (hsame : ∀ {a0 a1 : Value} {m : CM} {K : Value → CM → Prop} {Kp : List PanicEntry → CM → Prop}, sSame P I Str T0 T1 H (RK K Kp) a0 a1 m → callw P gs [a0, a1] m K Kp)
    {m : CM} (hm : Clean m) {g : FuncId} {t : Nat} (htn : t < m.next)
    (hclo : ∀ (m' : CM) (h : Nat), m.next ≤ m'.next → (∀ x, x < m.next → m'.get x = m.get x) → m.next ≤ h → h < m'.next → Own m' h [.slice none 0 0, .slice none 0 0] 0 → callw P g ([] ++ [.pointer (some ⟨h, 0, none⟩)] ++ [.pointer (some ⟨t, 0, none⟩)]) m' (CloPost P m' h) (fun _ _ => False))
    {K : Value → CM → Prop} {Kp : List PanicEntry → CM → Prop} (hK : ∀ m', m.le m' → K (.bool true) m') : sAgain P H gs (RK K Kp) (.func (.func g) ⟨[]⟩ ⟨[.pointer (some ⟨t, 0, none⟩)]⟩) m := by
  unfold sAgain
  rw [alw_iff ze, alw_iff ze]
  simp only [CM.next_alloc]
  generalize hnil : [Value.slice none 0 0, Value.slice none 0 0] = nil2
  generalize hab : (m.alloc (.cells nil2 0 true)).alloc (.cells nil2 0 true) = mab
  have hnab : mab.next = m.next + 2 := by subst hab; simp
  have hga : mab.get m.next = some (.cells nil2 0 true) := by subst hab; rw [CM.get_alloc, if_neg (by simp), CM.get_alloc, if_pos rfl]
  have hgb : mab.get (m.next + 1) = some (.cells nil2 0 true) := by subst hab; rw [CM.get_alloc, if_pos (by simp)]
  have hgo : ∀ x, x < m.next → mab.get x = m.get x := fun x hx => by subst hab; rw [CM.get_alloc, if_neg (by simp; omega), CM.get_alloc, if_neg (by omega)]
  -- the first call, where the second heap is not
  have hg0 : ∀ x, (mab.set (m.next + 1) none).get x = if x = m.next + 1 then none else mab.get x := fun x => CM.get_set ..
  obtain ⟨e, m1, hc1, hk1⟩ := hclo (mab.set (m.next + 1) none) m.next (by simp; omega) (fun x hx => by rw [hg0, if_neg (by omega), hgo x hx]) (Nat.le_refl _) (by simp; omega) ⟨by simp; omega, by rw [hg0, if_neg (by omega), hnil]; exact hga⟩
  cases e with
  | pan c => exact hk1.elim
  | ret v =>
  obtain ⟨vn, vs, bn, bs, cn, cs, W, g2, cs2, hvn, hvs, hown, hlen, hin, hist, ⟨hn1, hold⟩, hWn, hWs, hW, rfl, hwipe⟩ := hk1.ex
  simp only [CM.next_set] at hn1 hold hWn hWs hW hwipe
  -- what is in the first memory
  have hclean0 : ∀ b x, (mab.set (m.next + 1) none).get b = some x → b < m.next + 1 ∧ (x.live = true ∨ m1.get b = some x) ∧ ∀ σ : Nat → Nat, (∀ c, c < m.next → σ c = c) → renB σ x = some x := by
    intro b x hx
    rw [hg0] at hx
    split at hx
    · cases hx
    · by_cases hb : b < m.next
      · rw [hgo b hb] at hx
        obtain ⟨h1, h3⟩ := hm b x hx
        exact ⟨by omega, .inr (by rw [hold b (by omega) (by omega), hg0, if_neg (by omega), hgo b hb]; exact hx), h3⟩
      · by_cases hb' : b = m.next
        · subst hb'; rw [hga] at hx; cases hx
          subst hnil
          exact ⟨by omega, .inl (by simp [CB.live]), fun σ _ => by simp [renB, ren]⟩
        · exfalso
          have : mab.get b = none := by
            subst hab
            rw [CM.get_alloc, if_neg (by simp; omega), CM.get_alloc, if_neg hb']; exact hm.none (by omega)
          rw [this] at hx; cases hx
  obtain ⟨M1, hc1', hn1', hM1, hM1c⟩ := hc1.move (M := mab) (fun b => b) (fun b x hx => by obtain ⟨h1, h2, h3⟩ := hclean0 b x hx; exact ⟨by simp; omega, h2, by rw [h3 _ fun _ _ => rfl]; rfl⟩)
    (fun b hb => by simpa using hb) (fun a b _ _ h => h) (fun b hb => by simp at hb ⊢; omega)
    (fun b x y hx hy => by
      obtain ⟨h1, h2, h3⟩ := hclean0 b x hx
      rw [h3 _ fun _ _ => rfl] at hy; cases hy
      rw [hg0] at hx; rw [if_neg (by omega)] at hx; exact hx) hn1
  simp only [CM.next_set] at hn1' hM1 hM1c
  have hn1'' : M1.next = m1.next := by omega
  have hcell : ∀ x c e o, (mab.next ≤ x ∨ ((mab.set (m.next + 1) none).get x).isSome = true) → x < m1.next → m1.get x = some (.cells c e o) → M1.get x = some (.cells c e o) := by
    intro x c e o hx hlt hc
    have h1 : M1.get x = _ := hM1 x hlt hx
    rw [h1, hc]
    simp only [Option.bind_some, renB]
    rw [map_ren_id]
  show callw P g ([] ++ [.pointer (some ⟨m.next, 0, none⟩)] ++ [.pointer (some ⟨t, 0, none⟩)]) mab _ _
  refine ⟨_, M1, by rw [renL_id] at hc1'; exact hc1', ?_⟩
  simp only [renE, ren_id]
  have hn12 : m.next + 2 ≤ m1.next := by omega
  have hm0 : ∀ x, x < m.next → (mab.set (m.next + 1) none).get x = m.get x := fun x hx => by rw [hg0, if_neg (by omega), hgo x hx]
  have hM1o : ∀ x, x < m.next → M1.get x = m.get x := by
    intro x hx
    cases hh : m.get x with
    | none =>
      rw [hM1c x (by omega) (fun b y hb e => by subst e; rw [hm0 b hx, hh] at hb; cases hb), hgo x hx]; exact hh
    | some y =>
      have h1 : M1.get x = _ := hM1 x (by omega) (.inr (by rw [hm0 x hx, hh]; rfl))
      rw [h1, hold x (by omega) (by omega), hm0 x hx, hh]
      exact (hm x y hh).2 _ fun _ _ => rfl
  have hM1b : M1.get (m.next + 1) = some (.cells nil2 0 true) := by
    rw [hM1c _ (by omega) (fun b y hb e => by rw [hg0, if_pos e] at hb; cases hb)]; exact hgb
  have hM1a : M1.get m.next = some (.cells [vn, vs] 0 true) := hcell _ _ _ _ (.inr (by rw [hg0, if_neg (by omega), hga]; rfl)) (by omega) hown.2
  -- it is written over
  have hw := hwipe M1 hn1''.symm fun x c e o hx hl hc => hcell x c e o (.inl (by omega)) hl hc
  show callw P g2 cs2 M1 _ _
  refine callw_mono hw ?_ (fun _ _ h => h.elim)
  rintro _ M2 ⟨hn2, hM2⟩
  have hnW : ∀ x, x < m.next + 2 → ¬ W x := fun x hx hw => by have := hW x hw; omega
  have hM2o : ∀ x, x < m.next → M2.get x = m.get x := fun x hx => by rw [hM2 x (by omega) (hnW x (by omega)), hM1o x hx]
  have hM2b : M2.get (m.next + 1) = some (.cells nil2 0 true) := by rw [hM2 _ (by omega) (hnW _ (by omega)), hM1b]
  have hM2a : M2.get m.next = some (.cells [vn, vs] 0 true) := by rw [hM2 _ (by omega) (hnW _ (by omega)), hM1a]
  -- the second call
  let σ : Nat → Nat := fun b => if b < m.next then b else if b = m.next then m.next + 1 else if b = m.next + 1 then m.next else M2.next + (b - mab.next)
  have hσo : ∀ b, b < m.next → σ b = b := fun b hb => by simp only [σ, if_pos hb]
  have hσa : σ m.next = m.next + 1 := by simp [σ]
  have hσb : σ (m.next + 1) = m.next := by simp [σ]
  have hσn : ∀ b, m.next + 2 ≤ b → σ b = M2.next + (b - mab.next) := fun b hb => by simp only [σ]; rw [if_neg (by omega), if_neg (by omega), if_neg (by omega)]
  have hσc : ∀ b, b < m.next + 2 → b < m.next ∧ σ b = b ∨ b = m.next ∧ σ b = m.next + 1 ∨ b = m.next + 1 ∧ σ b = m.next := by
    intro b hb
    by_cases h1 : b < m.next
    · exact .inl ⟨h1, hσo b h1⟩
    · by_cases h2 : b = m.next
      · exact .inr (.inl ⟨h2, by rw [h2]; exact hσa⟩)
      · exact .inr (.inr ⟨by omega, by rw [show b = m.next + 1 by omega]; exact hσb⟩)
  obtain ⟨M3, hc3, hn3, hM3, hM3c⟩ := hc1.move (M := M2) σ (fun b x hx => by obtain ⟨h1, h2, h3⟩ := hclean0 b x hx; exact ⟨by simp; omega, h2, by rw [h3 _ hσo]; rfl⟩)
    (fun b hb => by simp only [CM.next_set] at hb; rcases hσc b (by omega) with h | h | h <;> omega)
    (fun a b ha hb he => by simp only [CM.next_set] at ha hb; rcases hσc a (by omega) with h | h | h <;> rcases hσc b (by omega) with k | k | k <;> omega)
    (fun b hb => by simp only [CM.next_set] at hb ⊢; exact hσn b (by omega))
    (fun b x y hx hy => by
      obtain ⟨h1, h2, h3⟩ := hclean0 b x hx
      rw [h3 _ hσo] at hy; cases hy
      by_cases hb : b < m.next
      · rw [hσo b hb, hM2o b hb, ← hm0 b hb]; exact hx
      · have : b = m.next := by omega
        subst this
        rw [hσa, hM2b, ← hga]
        rw [hg0, if_neg (by omega)] at hx; exact hx) hn1
  simp only [CM.next_set] at hn3 hM3 hM3c
  have hargs : renL σ ([] ++ [.pointer (some ⟨m.next, 0, none⟩)] ++ [.pointer (some ⟨t, 0, none⟩)]) = [.pointer (some ⟨m.next + 1, 0, none⟩), .pointer (some ⟨t, 0, none⟩)] := by
    simp [renL, ren, renA, hσa, hσo t htn]
  rw [hargs] at hc3
  show callw P g [.pointer (some ⟨m.next + 1, 0, none⟩), .pointer (some ⟨t, 0, none⟩)] M2 _ _
  refine ⟨_, M3, hc3, ?_⟩
  simp only [renE]
  have hpres : ∀ b x, (mab.set (m.next + 1) none).get b = some x → b < m.next ∧ σ b = b ∨ b = m.next ∧ σ b = m.next + 1 := by
    intro b x hx
    have h1 := (hclean0 b x hx).1
    rcases hσc b (by omega) with h | h | h
    · exact .inl h
    · exact .inr h
    · omega
  have hM3a : M3.get m.next = some (.cells [vn, vs] 0 true) := by
    rw [hM3c _ (by omega) (fun b x hb e => by rcases hpres b x hb with h | h <;> omega), hM2a]
  have hM3b : M3.get (m.next + 1) = some (.cells [ren σ vn, ren σ vs] 0 true) := by
    have h1 := hM3 m.next (by omega) (.inr (by rw [hg0, if_neg (by omega), hga]; rfl))
    rw [hσa] at h1
    rw [h1, hown.2]; rfl
  have hM3o : ∀ x, x < m.next → M3.get x = m.get x := by
    intro x hx
    cases hh : m.get x with
    | none =>
      rw [hM3c x (by omega) (fun b y hb e => by
        rcases hpres b y hb with h | h
        · have : b = x := by omega
          subst this; rw [hm0 b hx, hh] at hb; cases hb
        · omega), hM2o x hx]; exact hh
    | some y =>
      have h1 := hM3 x (by omega) (.inr (by rw [hm0 x hx, hh]; rfl))
      rw [hσo x hx] at h1
      rw [h1, hold x (by omega) (by omega), hm0 x hx, hh]
      exact (hm x y hh).2 _ hσo
  have hnew : ∀ y c, m.next + 2 ≤ y → y < m1.next → ¬ W y → m1.get y = some (.cells c 1 true) → M3.get y = some (.cells c 1 true) := by
    intro y c hy hl hw hc
    rw [hM3c y (by omega) (fun b x hb e => by rcases hpres b x hb with h | h <;> omega), hM2 y (by omega) hw]
    exact hcell y _ _ _ (.inl (by omega)) hl hc
  have hkeep : ∀ v b c, HV m1 v b c → (∀ y, b = some y → mab.next ≤ y ∧ ¬ W y) → HV M3 v b c := by
    intro v b c h hb
    cases h with
    | nil => exact .nil
    | blk h =>
      obtain ⟨h1, h2⟩ := hb _ rfl
      exact .blk ⟨by have := h.1; omega, hnew _ _ (by omega) h.1 h2 h.2⟩
  have hren : ∀ v b c, HV m1 v b c → (∀ y, b = some y → mab.next ≤ y ∧ ¬ W y) → (∀ u ∈ c, ren σ u = u) → HV M3 (ren σ v) (b.map σ) c := by
    intro v b c h hb hc
    refine h.ren (fun y e => ?_) (fun y e => ?_) hc
    · have := h.lt e; have := (hb y e).1; rw [hσn y (by omega)]; omega
    · exact hM3 y (h.lt e) (.inl (hb y e).1)
  have la : ∀ M b u w, M.get b = some (.cells [u, w] 0 true) → cload P H (.pointer (some ⟨b, 0, none⟩)) M = some (.agg ⟨[u, w]⟩) := by
    intro M b u w h
    simp [cload, h, agH, szH]
  rw [la _ _ _ _ hM3a, pop_some, la _ _ _ _ hM3b, pop_some]
  have hi : ∀ u ∈ cn, ren σ u = u := fun u hu => by obtain ⟨n, rfl⟩ := hin u hu; simp [ren]
  have hs : ∀ u ∈ cs, ren σ u = u := fun u hu => by obtain ⟨n, rfl⟩ := hist u hu; simp [ren]
  refine same_ok ht hsame (hkeep _ _ _ hvn hWn) (hkeep _ _ _ hvs hWs) (hren _ _ _ hvn hWn hi) (hren _ _ _ hvs hWs hs) (Nat.lt_of_le_of_lt hlen.1 (by decide)) (Nat.lt_of_le_of_lt hlen.2 (by decide)) hin hist fun m' hle => ?_
  simp only [leave1, RK_ret]
  exact hK _ (CM.le.trans ⟨by omega, hM3o⟩ hle)
end
end Go.Proofs.Ytjkfleibnojjaaa
end

section
namespace Go.Proofs.Ytjkfleibnojjaaa
open Go
/-! ### The whole law -/
theorem Sl.ren {e : Nat} {m : CM} {v : Value} {n : Nat} {row : Nat → List Value} (h : Sl e m v n row) {σ : Nat → Nat} (hs : ∀ c, c < m.next → σ c = c) : Ytjkfleibnojjaaa.ren σ v = v := by
  rcases h with ⟨rfl, _⟩ | ⟨b, o, k, c, own, rfl, hb, _⟩ | ⟨b, rfl, hb, _⟩
  · simp [Ytjkfleibnojjaaa.ren]
  · simp [Ytjkfleibnojjaaa.ren, renA, hs b hb]
  · simp [Ytjkfleibnojjaaa.ren, renA, hs b hb]
theorem WT.ren {F : Keep} {m : CM} (hm : FW F m) {c : CT} {k : Nat} {v : Value} (h : WT F c k v) {σ : Nat → Nat} (hs : ∀ c, c < m.next → σ c = c) : Ytjkfleibnojjaaa.ren σ v = v := by
  cases h with
  | i => simp [Ytjkfleibnojjaaa.ren]
  | s => simp [Ytjkfleibnojjaaa.ren]
  | b => simp [Ytjkfleibnojjaaa.ren]
  | sl h _ _ => exact (h m hm).ren hs
theorem WTL.ren {F : Keep} {m : CM} (hm : FW F m) : ∀ {tys : List CT} {k : Nat} {l : List Value}, WTL F tys k l → ∀ {σ : Nat → Nat}, (∀ c, c < m.next → σ c = c) → l.map (Ytjkfleibnojjaaa.ren σ) = l
  | [], _, _, .nil, _, _ => rfl
  | _ :: _, _, _, .cons h t, _, hs => by simp only [List.map_cons, h.ren hm hs, t.ren hm hs]

section
variable {P : Program} {I Str T0 T1 H X : TypeId}
def tops (P : Program) (ag : FuncId) (t1 : Value) (Kp : List PanicEntry → CM → Prop) (End : Value → CM → Prop) : List FuncId → Value → CM → Prop
  | [], t, m => End t m
  | g :: gs, t, m => gop (gb t true) (fun K => K (.func (Fn.func g) ⟨[]⟩ ⟨[t1]⟩) m) (fun t11 m => gop (gb t true) (fun K => callw P ag [t11] m K Kp) (fun t12 m => pop (cpick t t12 (.bool false)) m (fun t13 m => tops P ag t1 Kp End gs t13 m)) m) m
def topE (P : Program) (X H : TypeId) (al gs aw : FuncId) (t1 t3 t4 : Value) (R : CE → CM → Prop) (t37 : Value) (m : CM) : Prop :=
  pop (cload P X t1 m) m (fun t38 m => callw P al [t38, t4] m (fun _ m => gop (gb t37 true) (fun K => pop (cload P H t3 m) m K) (fun t42 m => gop (gb t37 true) (fun K => pop (cload P H t4 m) m K) (fun t43 m => gop (gb t37 true) (fun K => callw P gs [t42, t43] m K (fun ch m => R (.pan ch) m)) (fun t44 m => pop (cpick t37 t44 (.bool false)) m (fun t45 m => gop (gb t45 true) (fun K => callw P aw [] m K (fun ch m => R (.pan ch) m)) (fun t47 m => pop (cpick t45 t47 (.bool false)) m (fun t48 m => leaveV P [.v t48] [] .ret m R)) m)) m) m) m) (fun ch m => R (.pan ch) m))
def sTop (P : Program) (X H : TypeId) (al ag gs aw : FuncId) (g0 : FuncId) (gl : List FuncId) (R : CE → CM → Prop) (a0 : Value) (m : CM) : Prop :=
  boxw a0 m (fun t1 m => alw P H m (fun t3 m => alw P H m (fun t4 m => pop (cload P X t1 m) m (fun t6 m => callw P al [t6, t3] m (fun _ m => callw P ag [(.func (Fn.func g0) ⟨[]⟩ ⟨[t1]⟩)] m (fun t9 m => tops P ag t1 (fun ch m => R (.pan ch) m) (topE P X H al gs aw t1 t3 t4 R) gl t9 m) (fun ch m => R (.pan ch) m)) (fun ch m => R (.pan ch) m)))))

/-- What a closure of the harness is asked. -/
def CloOk (P : Program) (tys : List CT) (k : Nat) (l : List Value) (g : FuncId) : Prop := ∀ (F : Keep) (m : CM) (h t : Nat), WTL F tys k l → FW F m → (∀ y, F h ≠ some y) → Own m t l 0 → t ≠ h → Own m h [.slice none 0 0, .slice none 0 0] 0 →
  callw P g [.pointer (some ⟨h, 0, none⟩), .pointer (some ⟨t, 0, none⟩)] m (CloPost P m h) (fun _ _ => False)

theorem FW.aged {F : Keep} {m : CM} (h : FW F m) {n : Nat} (hn : m.next ≤ n) : FW F (m.aged n) := fun x y hx => ⟨Nat.lt_of_lt_of_le (h x y hx).1 hn, (h x y hx).2⟩

theorem tops_ok {tys : List CT} {k : Nat} {l : List Value} {F : Keep} {ag : FuncId} {t : Nat} {Kp : List PanicEntry → CM → Prop} {End : Value → CM → Prop} (hw : WTL F tys k l)
    (hag : ∀ (m : CM) (g : FuncId), CloOk P tys k l g → Clean m → FW F m → Own m t l 0 → callw P ag [.func (.func g) ⟨[]⟩ ⟨[.pointer (some ⟨t, 0, none⟩)]⟩] m (fun v m' => m.le m' ∧ v = .bool true) (fun _ _ => False)) :
    ∀ (gl : List FuncId) (m : CM), (∀ g ∈ gl, CloOk P tys k l g) → Clean m → FW F m → Own m t l 0 → (∀ n, m.next ≤ n → End (.bool true) (m.aged n)) → tops P ag (.pointer (some ⟨t, 0, none⟩)) Kp End gl (.bool true) m
  | [], m, _, hm, hf, ho, hE => by simpa [tops, CM.aged] using hE m.next (Nat.le_refl _)
  | g :: gl, m, hg, hm, hf, ho, hE => by
    simp only [tops, gb_bool, beq_self_eq_true, gop_true]
    refine callw_clean hm (hag m g (hg g (by simp)) hm hf ho) ?_
    rintro v n hn rfl
    simp only [cpick_bool, if_true, pop_some]
    exact tops_ok hw hag gl _ (fun g h => hg g (by simp [h])) (hm.aged hn) (hf.aged hn) ⟨Nat.lt_of_lt_of_le ho.1 hn, ho.2⟩ fun n' hn' => hE n' (Nat.le_trans hn hn')

theorem hp_init {F : Keep} {m : CM} {h : Nat} (hf : FW F m) (hh : ∀ y, F h ≠ some y) (ho : Own m h [.slice none 0 0, .slice none 0 0] 0) : Hp F h 0 m :=
  ⟨_, _, none, none, [], [], .nil, .nil, ho, ⟨by simp, by simp, by simp⟩, ⟨by simp, by simp⟩, by simp, by simp, fun x y hx => ⟨hf x y hx, fun e => hh y (by rw [← e]; exact hx), by simp, by simp⟩⟩

theorem top_ok (ht : HeapT P I Str T0 T1 H) (ze : zeroL P H = some [.slice none 0 0, .slice none 0 0]) (agH : aggB P H = some true) (szH : szOf P H = some 2) (agX : aggB P X = some true) {tys : List CT} (szX : szOf P X = some tys.length) {al ag gs aw g0 : FuncId} {gl : List FuncId}
    (hsame : ∀ {a0 a1 : Value} {m : CM} {K : Value → CM → Prop} {Kp : List PanicEntry → CM → Prop}, sSame P I Str T0 T1 H (RK K Kp) a0 a1 m → callw P gs [a0, a1] m K Kp)
    (hagain : ∀ {a0 : Value} {m : CM} {K : Value → CM → Prop} {Kp : List PanicEntry → CM → Prop}, sAgain P H gs (RK K Kp) a0 m → callw P ag [a0] m K Kp)
    (hall : ∀ {F : Keep} {h B : Nat} {m : CM} {l : List Value} {k : Nat} {K : Value → CM → Prop} {Kp : List PanicEntry → CM → Prop}, Hp F h B m → WTL F tys k l → B + k ≤ lim → (∀ u m', Hp F h (B + k) m' → K u m') → callw P al [.agg ⟨l⟩, .pointer (some ⟨h, 0, none⟩)] m K Kp)
    (haw : ∀ M : CM, callw P aw [] M (fun v m' => v = .bool true ∧ M.le m') (fun _ _ => False))
    {l : List Value} {k : Nat} {m : CM} (hm : Clean m) (hw : WTL (keepAll m) tys k l) (hk : k ≤ lim) (hclo : ∀ g ∈ g0 :: gl, CloOk P tys k l g)
    {K : Value → CM → Prop} {Kp : List PanicEntry → CM → Prop} (hK : ∀ m', m.le m' → K (.bool true) m') : sTop P X H al ag gs aw g0 gl (RK K Kp) (.agg ⟨l⟩) m := by
  unfold sTop
  rw [boxw_iff, alw_iff ze, alw_iff ze]
  simp only [CM.next_alloc, toL]
  generalize hnil : [Value.slice none 0 0, Value.slice none 0 0] = nil2
  have hcl1 : Clean (m.alloc (.cells l 0 true)) := hm.alloc fun σ hs => hw.ren (fw_keepAll m) hs
  have hcl2 : Clean ((m.alloc (.cells l 0 true)).alloc (.cells nil2 0 true)) := hcl1.alloc fun σ hs => by subst hnil; simp [ren]
  have hcl : Clean (((m.alloc (.cells l 0 true)).alloc (.cells nil2 0 true)).alloc (.cells nil2 0 true)) := hcl2.alloc fun σ hs => by subst hnil; simp [ren]
  generalize hm2 : ((m.alloc (.cells l 0 true)).alloc (.cells nil2 0 true)).alloc (.cells nil2 0 true) = m2 at hcl
  have hn2 : m2.next = m.next + 3 := by subst hm2; simp
  have gx : m2.get m.next = some (.cells l 0 true) := by subst hm2; rw [CM.get_alloc, if_neg (by simp only [CM.next_alloc]; omega), CM.get_alloc, if_neg (by simp only [CM.next_alloc]; omega), CM.get_alloc, if_pos rfl]
  have gw : m2.get (m.next + 1) = some (.cells nil2 0 true) := by subst hm2; rw [CM.get_alloc, if_neg (by simp only [CM.next_alloc]; omega), CM.get_alloc, if_pos (by simp)]
  have gi : m2.get (m.next + 2) = some (.cells nil2 0 true) := by subst hm2; rw [CM.get_alloc, if_pos (by simp)]
  have gold : ∀ x, x < m.next → m2.get x = m.get x := fun x hx => by subst hm2; rw [CM.get_alloc, if_neg (by simp; omega), CM.get_alloc, if_neg (by simp; omega), CM.get_alloc, if_neg (by omega)]
  have hlen := hw.length
  have ldx : ∀ M : CM, M.get m.next = some (.cells l 0 true) → cload P X (.pointer (some ⟨m.next, 0, none⟩)) M = some (.agg ⟨l⟩) := by
    intro M h
    simp only [cload, h, agX, szX]
    rw [List.drop_zero, ← hlen, List.take_length, if_pos rfl]
  rw [ldx _ gx, pop_some]
  -- the first reading, where the second heap is not
  have hg0 : ∀ x, (m2.set (m.next + 2) none).get x = if x = m.next + 2 then none else m2.get x := fun x => CM.get_set ..
  let F : Keep := keepBut (m2.set (m.next + 2) none) (m.next + 1)
  have hF0 : ∀ x z, keepAll m x = some z → F x = some z := by
    intro x z hx
    unfold keepAll at hx
    split at hx
    · rename_i h; cases hx
      show (if x < (m2.set (m.next + 2) none).next ∧ x ≠ m.next + 1 then some ((m2.set (m.next + 2) none).get x) else none) = _
      have hc : x < (m2.set (m.next + 2) none).next ∧ x ≠ m.next + 1 := ⟨by simp only [CM.next_set]; omega, by omega⟩
      rw [if_pos hc, hg0, if_neg (by omega), gold x h]
    · cases hx
  have hfw : FW F (m2.set (m.next + 2) none) := by
    intro x y hx
    simp only [F, keepBut] at hx
    split at hx
    · rename_i h; cases hx; exact ⟨h.1, rfl⟩
    · cases hx
  have hwF := hw.mono hF0
  obtain ⟨e, m1, hc1, hk1⟩ := hall (F := F) (h := m.next + 1) (B := 0) (m := m2.set (m.next + 2) none) (l := l) (k := k) (K := fun _ m' => Hp F (m.next + 1) k m') (Kp := fun _ _ => False)
    (hp_init hfw (fun y hy => by simp only [F, keepBut] at hy; rw [if_neg (by omega)] at hy; cases hy) ⟨by simp; omega, by rw [hg0, if_neg (by omega), hnil]; exact gw⟩) hwF (by omega) (fun u m' hp => by simpa using hp)
  cases e with
  | pan c => exact hk1.elim
  | ret v =>
  obtain ⟨vn, vs, bn, bs, cn, cs, hvn, hvs, hown, hdis, hlen2, hin, hist, hkeep⟩ := hk1.ex
  have hFv : ∀ x, x < m.next + 3 → x ≠ m.next + 1 → F x = some ((m2.set (m.next + 2) none).get x) := by
    intro x h1 h2
    show (if x < (m2.set (m.next + 2) none).next ∧ x ≠ m.next + 1 then some ((m2.set (m.next + 2) none).get x) else none) = _
    rw [if_pos ⟨by simp only [CM.next_set]; omega, h2⟩]
  have hn1 : m.next + 3 ≤ m1.next := (hkeep (m.next + 2) _ (hFv _ (by omega) (by omega))).1.1
  have hold : ∀ x, x < m.next + 3 → x ≠ m.next + 1 → m1.get x = (m2.set (m.next + 2) none).get x := fun x h1 h2 => (hkeep x _ (hFv x h1 h2)).1.2
  have hbn : ∀ y, bn = some y → m.next + 3 ≤ y := by
    intro y hy
    apply Nat.le_of_not_lt; intro hlt
    by_cases e : y = m.next + 1
    · exact hdis.1 (by rw [hy, e])
    · exact (hkeep y _ (hFv y hlt e)).2.2.1 hy
  have hbs : ∀ y, bs = some y → m.next + 3 ≤ y := by
    intro y hy
    apply Nat.le_of_not_lt; intro hlt
    by_cases e : y = m.next + 1
    · exact hdis.2.1 (by rw [hy, e])
    · exact (hkeep y _ (hFv y hlt e)).2.2.2 hy
  have hclean0 : ∀ b x, (m2.set (m.next + 2) none).get b = some x → b < m.next + 2 ∧ (x.live = true ∨ m1.get b = some x) ∧ ∀ σ : Nat → Nat, (∀ c, c < m.next + 1 → σ c = c) → renB σ x = some x := by
    intro b x hx
    rw [hg0] at hx
    split at hx
    · cases hx
    · rename_i hb2
      by_cases hb : b < m.next
      · rw [gold b hb] at hx
        obtain ⟨h1, h3⟩ := hm b x hx
        exact ⟨by omega, .inr (by rw [hold b (by omega) (by omega), hg0, if_neg (by omega), gold b hb]; exact hx), fun σ hs => h3 σ fun c hc => hs c (by omega)⟩
      · have hlt := (hcl b x hx).1
        by_cases hb1 : b = m.next
        · subst hb1; rw [gx] at hx; cases hx
          exact ⟨by omega, .inl (by simp [CB.live]), fun σ hs => by simp only [renB]; rw [hw.ren (fw_keepAll m) fun c hc => hs c (by omega)]⟩
        · have : b = m.next + 1 := by omega
          subst this; rw [gw] at hx; cases hx
          subst hnil
          exact ⟨by omega, .inl (by simp [CB.live]), fun σ _ => by simp [renB, ren]⟩
  obtain ⟨M1, hc1', hn1', hM1, hM1c⟩ := hc1.move (M := m2) (fun b => b) (fun b x hx => by obtain ⟨h1, h2, h3⟩ := hclean0 b x hx; exact ⟨by simp; omega, h2, by rw [h3 _ fun _ _ => rfl]; rfl⟩)
    (fun b hb => by simpa using hb) (fun a b _ _ h => h) (fun b hb => by simp at hb ⊢; omega)
    (fun b x y hx hy => by
      obtain ⟨h1, h2, h3⟩ := hclean0 b x hx
      rw [h3 _ fun _ _ => rfl] at hy; cases hy
      rw [hg0] at hx; rw [if_neg (by omega)] at hx; exact hx) (by simp only [CM.next_set]; omega)
  simp only [CM.next_set] at hn1' hM1 hM1c
  have hn1'' : M1.next = m1.next := by omega
  have hcell : ∀ x c e o, (m2.next ≤ x ∨ ((m2.set (m.next + 2) none).get x).isSome = true) → x < m1.next → m1.get x = some (.cells c e o) → M1.get x = some (.cells c e o) := by
    intro x c e o hx hlt hc
    have h1 : M1.get x = _ := hM1 x hlt hx
    rw [h1, hc]
    simp only [Option.bind_some, renB]
    rw [map_ren_id]
  have hM1o : ∀ x, x < m.next + 3 → x ≠ m.next + 1 → M1.get x = m2.get x := by
    intro x hx hne
    cases hh : (m2.set (m.next + 2) none).get x with
    | none => exact hM1c x (by omega) (fun b y hb e => by subst e; rw [hh] at hb; cases hb)
    | some y =>
      have h1 : M1.get x = _ := hM1 x (by omega) (.inr (by rw [hh]; rfl))
      rw [h1, hold x hx hne, hh]
      obtain ⟨h2, h3, h4⟩ := hclean0 x y hh
      rw [hg0, if_neg (by omega)] at hh
      rw [hh]
      exact h4 _ fun _ _ => rfl
  have hM1w : M1.get (m.next + 1) = some (.cells [vn, vs] 0 true) := hcell _ _ _ _ (.inr (by rw [hg0, if_neg (by omega), gw]; rfl)) (by omega) hown.2
  refine callw_forget ⟨_, M1, by rw [renL_id] at hc1'; exact hc1', ?_⟩
  simp only [renE]
  -- what is left
  let sel : Nat → Bool := fun x => decide (x < m.next + 3) || decide (bn = some x) || decide (bs = some x)
  obtain ⟨Mw, hnw, hgw⟩ : ∃ Mw : CM, Mw.next = M1.next ∧ ∀ x, Mw.get x = if sel x = true ∧ x < M1.next then M1.get x else none := by
    have : ∀ n, ∃ Mw : CM, Mw.next = M1.next ∧ ∀ x, Mw.get x = if sel x = true ∧ x < n then M1.get x else none := by
      intro n
      induction n with
      | zero => exact ⟨⟨.nil, M1.next⟩, rfl, fun x => by rw [if_neg (by omega)]; rfl⟩
      | succ n ih =>
        obtain ⟨A, h1, h2⟩ := ih
        refine ⟨A.set n (if sel n = true then M1.get n else none), by simpa using h1, fun x => ?_⟩
        rw [CM.get_set, h2]
        by_cases e : x = n
        · subst e
          rw [if_pos rfl]
          by_cases hs : sel x = true
          · rw [if_pos hs, if_pos ⟨hs, by omega⟩]
          · rw [if_neg hs, if_neg (fun h => hs h.1)]
        · rw [if_neg e]
          by_cases hs : sel x = true ∧ x < n
          · rw [if_pos hs, if_pos ⟨hs.1, by omega⟩]
          · rw [if_neg hs, if_neg (fun h => hs ⟨h.1, by omega⟩)]
    exact this M1.next
  have hsub : ∀ b x, Mw.get b = some x → M1.get b = some x := by
    intro b x hx
    rw [hgw] at hx
    split at hx
    · exact hx
    · cases hx
  refine ⟨Mw, hnw, hsub, ?_⟩
  have hgwo : ∀ x, x < m.next + 3 → Mw.get x = M1.get x := fun x hx => by rw [hgw, if_pos ⟨by simp [sel, hx], by omega⟩]
  have hv : ∀ v b c, HV m1 v b c → (∀ y, b = some y → m.next + 3 ≤ y) → (∀ y, b = some y → sel y = true) → HV Mw v b c := by
    intro v b c h h1 h2
    refine h.of_get (by omega) (fun y e => ?_)
    cases h with
    | nil => cases e
    | blk h =>
      cases e
      rw [hgw, if_pos ⟨h2 _ rfl, by have := h.1; omega⟩, hcell _ _ _ _ (.inl (by have := h1 _ rfl; omega)) h.1 h.2, h.2]
  have hvn' := hv _ _ _ hvn hbn (fun y e => by simp [sel, e])
  have hvs' := hv _ _ _ hvs hbs (fun y e => by simp [sel, e])
  have hrenv : ∀ v b c, HV Mw v b c → ∀ σ : Nat → Nat, (∀ c, c < Mw.next → σ c = c) → ren σ v = v := by
    intro v b c h σ hs
    cases h with
    | nil => simp [ren]
    | blk h => simp [ren, renA, hs _ h.1]
  have hclw : Clean Mw := by
    intro b x hx
    by_cases hb : b < m.next + 3
    · by_cases hb1 : b = m.next + 1
      · subst hb1
        rw [hgwo _ hb, hM1w] at hx; cases hx
        exact ⟨by omega, fun σ hs => by simp [renB, hrenv _ _ _ hvn' σ hs, hrenv _ _ _ hvs' σ hs]⟩
      · rw [hgwo _ hb, hM1o b hb hb1] at hx
        obtain ⟨h1, h3⟩ := hcl b x hx
        exact ⟨by omega, fun σ hs => h3 σ fun c hc => hs c (by omega)⟩
    · rw [hgw] at hx
      split at hx
      · rename_i h
        have hsel : bn = some b ∨ bs = some b := by
          have := h.1
          simp only [sel, Bool.or_eq_true, decide_eq_true_eq] at this
          rcases this with (h1 | h1) | h1
          · omega
          · exact .inl h1
          · exact .inr h1
        have hc : ∃ c, x = .cells c 1 true ∧ ∀ σ : Nat → Nat, ∀ u ∈ c, ren σ u = u := by
          rcases hsel with e | e
          · cases hvn with
            | nil => cases e
            | blk q =>
              cases e
              rw [hcell _ _ _ _ (.inl (by omega)) q.1 q.2] at hx; cases hx
              exact ⟨_, rfl, fun σ u hu => by obtain ⟨n, rfl⟩ := hin u hu; simp [ren]⟩
          · cases hvs with
            | nil => cases e
            | blk q =>
              cases e
              rw [hcell _ _ _ _ (.inl (by omega)) q.1 q.2] at hx; cases hx
              exact ⟨_, rfl, fun σ u hu => by obtain ⟨n, rfl⟩ := hist u hu; simp [ren]⟩
        obtain ⟨c, rfl, hr⟩ := hc
        exact ⟨by omega, fun σ _ => by simp only [renB]; rw [List.map_congr_left (hr σ)]; simp⟩
      · cases hx
  have hfww : FW (keepAll m) Mw := by
    intro x y hx
    unfold keepAll at hx
    split at hx
    · rename_i h; cases hx
      exact ⟨by omega, by rw [hgwo x (by omega), hM1o x (by omega) (by omega), gold x h]⟩
    · cases hx
  have hox : Own Mw m.next l 0 := ⟨by omega, by rw [hgwo _ (by omega), hM1o _ (by omega) (by omega)]; exact gx⟩
  have hag : ∀ (M : CM) (g : FuncId), CloOk P tys k l g → Clean M → FW (keepAll m) M → Own M m.next l 0 → callw P ag [.func (.func g) ⟨[]⟩ ⟨[.pointer (some ⟨m.next, 0, none⟩)]⟩] M (fun v m' => M.le m' ∧ v = .bool true) (fun _ _ => False) := by
    intro M g hg hcM hfM hoM
    refine hagain (again_ok ht ze agH szH hsame hcM hoM.1 ?_ fun m' hle => ⟨hle, rfl⟩)
    intro m' h h1 h2 h3 h4 h5
    exact hg (keepAll m) m' h m.next hw (fun x y hx => ⟨Nat.lt_of_lt_of_le (hfM x y hx).1 h1, by rw [h2 x (hfM x y hx).1]; exact (hfM x y hx).2⟩) (fun y hy => by have := (hfM h y hy).1; omega)
      ⟨Nat.lt_of_lt_of_le hoM.1 h1, by rw [h2 _ hoM.1]; exact hoM.2⟩ (by have := hoM.1; omega) h5
  refine callw_clean hclw (hag Mw g0 (hclo g0 (by simp)) hclw hfww hox) ?_
  rintro v1 n1 hn1w rfl
  refine tops_ok hw hag gl _ (fun g h => hclo g (by simp [h])) (hclw.aged hn1w) (hfww.aged hn1w) ⟨Nat.lt_of_lt_of_le hox.1 hn1w, hox.2⟩ ?_
  intro n hn
  show topE P X H al gs aw _ _ _ _ _ (Mw.aged n)
  have hn' : Mw.next ≤ n := Nat.le_trans hn1w hn
  -- the second reading
  unfold topE
  rw [ldx _ (show (Mw.aged n).get m.next = _ from hox.2), pop_some]
  let σ : Nat → Nat := fun b => if b < m.next + 1 then b else if b = m.next + 1 then m.next + 2 else if b = m.next + 2 then m.next + 1 else n + (b - m2.next)
  have hσo : ∀ b, b < m.next + 1 → σ b = b := fun b hb => by simp only [σ, if_pos hb]
  have hσa : σ (m.next + 1) = m.next + 2 := by simp [σ]
  have hσb : σ (m.next + 2) = m.next + 1 := by simp [σ]
  have hσn : ∀ b, m.next + 3 ≤ b → σ b = n + (b - m2.next) := fun b hb => by simp only [σ]; rw [if_neg (by omega), if_neg (by omega), if_neg (by omega)]
  have hσc : ∀ b, b < m.next + 3 → b < m.next + 1 ∧ σ b = b ∨ b = m.next + 1 ∧ σ b = m.next + 2 ∨ b = m.next + 2 ∧ σ b = m.next + 1 := by
    intro b hb
    by_cases h1 : b < m.next + 1
    · exact .inl ⟨h1, hσo b h1⟩
    · by_cases h2 : b = m.next + 1
      · exact .inr (.inl ⟨h2, by rw [h2]; exact hσa⟩)
      · exact .inr (.inr ⟨by omega, by rw [show b = m.next + 2 by omega]; exact hσb⟩)
  have hMo : ∀ x, x < m.next + 3 → x ≠ m.next + 1 → (Mw.aged n).get x = m2.get x := fun x h1 h2 => by rw [get_aged, hgwo x h1, hM1o x h1 h2]
  obtain ⟨M3, hc3, hn3, hM3, hM3c⟩ := hc1.move (M := Mw.aged n) σ (fun b x hx => by obtain ⟨h1, h2, h3⟩ := hclean0 b x hx; exact ⟨by simp; omega, h2, by rw [h3 _ hσo]; rfl⟩)
    (fun b hb => by simp only [CM.next_set] at hb; show σ b < n; rcases hσc b (by omega) with h | h | h <;> omega)
    (fun a b ha hb he => by simp only [CM.next_set] at ha hb; rcases hσc a (by omega) with h | h | h <;> rcases hσc b (by omega) with k | k | k <;> omega)
    (fun b hb => by simp only [CM.next_set] at hb ⊢; exact hσn b (by omega))
    (fun b x y hx hy => by
      obtain ⟨h1, h2, h3⟩ := hclean0 b x hx
      rw [h3 _ hσo] at hy; cases hy
      rw [hg0, if_neg (by omega)] at hx
      by_cases hb : b < m.next + 1
      · rw [hσo b hb, hMo b (by omega) (by omega)]; exact hx
      · have : b = m.next + 1 := by omega
        subst this
        rw [hσa, hMo _ (by omega) (by omega), gi, ← gw]; exact hx) (by simp only [CM.next_set]; omega)
  simp only [CM.next_set] at hn3 hM3 hM3c
  have hn3' : M3.next = n + (m1.next - m2.next) := hn3
  have hargs : renL σ [.agg ⟨l⟩, .pointer (some ⟨m.next + 1, 0, none⟩)] = [.agg ⟨l⟩, .pointer (some ⟨m.next + 2, 0, none⟩)] := by
    have h1 : l.map (ren σ) = l := hw.ren (fw_keepAll m) fun c hc => hσo c (by omega)
    simp only [renL, ren, renA, hσa, renL_map, h1]
  rw [hargs] at hc3
  refine ⟨_, M3, hc3, ?_⟩
  simp only [renE]
  have hpres : ∀ b x, (m2.set (m.next + 2) none).get b = some x → b < m.next + 1 ∧ σ b = b ∨ b = m.next + 1 ∧ σ b = m.next + 2 := by
    intro b x hx
    have h1 := (hclean0 b x hx).1
    rcases hσc b (by omega) with h | h | h
    · exact .inl h
    · exact .inr h
    · omega
  have hM3a : M3.get (m.next + 1) = some (.cells [vn, vs] 0 true) := by
    rw [hM3c _ (show m.next + 1 < n by omega) (fun b x hb e => by rcases hpres b x hb with h | h <;> omega), get_aged, hgwo _ (by omega), hM1w]
  have hM3b : M3.get (m.next + 2) = some (.cells [ren σ vn, ren σ vs] 0 true) := by
    have h1 := hM3 (m.next + 1) (by omega) (.inr (by rw [hg0, if_neg (by omega), gw]; rfl))
    rw [hσa] at h1
    rw [h1, hown.2]; rfl
  have hM3o : ∀ x, x < m.next → M3.get x = m.get x := by
    intro x hx
    cases hh : m.get x with
    | none =>
      rw [hM3c x (show x < n by omega) (fun b y hb e => by
        rcases hpres b y hb with h | h
        · have : b = x := by omega
          subst this; rw [hg0, if_neg (by omega), gold b hx, hh] at hb; cases hb
        · omega), hMo x (by omega) (by omega), gold x hx]; exact hh
    | some y =>
      have h1 := hM3 x (by omega) (.inr (by rw [hg0, if_neg (by omega), gold x hx, hh]; rfl))
      rw [hσo x (by omega)] at h1
      rw [h1, hold x (by omega) (by omega), hg0, if_neg (by omega), gold x hx, hh]
      exact (hm x y hh).2 _ fun c hc => hσo c (by omega)
  have hkeep3 : ∀ v b c, HV Mw v b c → (∀ y, b = some y → m.next + 3 ≤ y) → HV M3 v b c := by
    intro v b c h hb
    refine h.of_get (by omega) (fun y e => ?_)
    have hl := h.lt e
    rw [hM3c y (show y < n by omega) (fun b x hb' e' => by have := hb y e; rcases hpres b x hb' with h | h <;> omega), get_aged]
  have hren : ∀ v b c, HV m1 v b c → (∀ y, b = some y → m.next + 3 ≤ y) → (∀ u ∈ c, ren σ u = u) → HV M3 (ren σ v) (b.map σ) c := by
    intro v b c h hb hc
    refine h.ren (fun y e => ?_) (fun y e => ?_) hc
    · have := h.lt e; have := hb y e; rw [hσn y (by omega)]; omega
    · exact hM3 y (h.lt e) (.inl (by have := hb y e; omega))
  have la : ∀ M b u w, M.get b = some (.cells [u, w] 0 true) → cload P H (.pointer (some ⟨b, 0, none⟩)) M = some (.agg ⟨[u, w]⟩) := by
    intro M b u w h
    simp [cload, h, agH, szH]
  simp only [gb_bool, beq_self_eq_true, gop_true]
  have la3 := la _ _ _ _ hM3a
  have lb3 : cload P H (.pointer (some ⟨m.next + 1 + 1, 0, none⟩)) M3 = _ := la _ _ _ _ hM3b
  rw [la3, pop_some, lb3, pop_some]
  have hi : ∀ u ∈ cn, ren σ u = u := fun u hu => by obtain ⟨n, rfl⟩ := hin u hu; simp [ren]
  have hs : ∀ u ∈ cs, ren σ u = u := fun u hu => by obtain ⟨n, rfl⟩ := hist u hu; simp [ren]
  have hll : lim < 4611686018427387904 := by decide
  refine same_ok ht hsame (hkeep3 _ _ _ hvn' hbn) (hkeep3 _ _ _ hvs' hbs) (hren _ _ _ hvn hbn hi) (hren _ _ _ hvs hbs hs) (by omega) (by omega) hin hist fun m4 hle4 => ?_
  simp only [cpick_bool, if_true, pop_some, gb_bool, beq_self_eq_true, gop_true]
  refine callw_mono (haw m4) ?_ (fun _ _ h => h.elim)
  rintro v5 m5 ⟨rfl, hle5⟩
  simp only [leave1, RK_ret]
  exact hK _ (CM.le.trans ⟨by omega, hM3o⟩ (hle4.trans hle5))
end
end Go.Proofs.Ytjkfleibnojjaaa
end

section
namespace Go.Proofs.Ytjkfleibnojjaaa
open Go
/-! ### From the reading of the arguments to a plain memory -/
mutual
inductive TyC (P : Program) : TypeId → List CT → Prop where
  | i {t : TypeId} (h : P.underlying t = some (.int .i64)) : TyC P t [.i]
  | s {t : TypeId} (h : P.underlying t = some .string) : TyC P t [.s]
  | b {t : TypeId} (h : P.underlying t = some .bool) : TyC P t [.b]
  | sl {t e : TypeId} {tys : List CT} (h : P.underlying t = some (.slice e)) (hc : P.cellsOf e = tys.length) (hp : 0 < tys.length) (he : TyC P e tys) : TyC P t [.sl tys]
  | st {t : TypeId} {fs : Array Field} {tys : List CT} (h : P.underlying t = some (.struct fs)) (hc : P.cellsOf t = tys.length) (hf : TyF P fs.toList 0 tys) : TyC P t tys
  | ar {t e : TypeId} {n : Nat} {tys : List CT} (h : P.underlying t = some (.array n e)) (hc : P.cellsOf e = tys.length) (hc' : P.cellsOf t = n * tys.length) (he : TyC P e tys) : TyC P t (List.replicate n tys).flatten
inductive TyF (P : Program) : List Field → Nat → List CT → Prop where
  | nil {o : Nat} : TyF P [] o []
  | cons {o : Nat} {f : Field} {fs : List Field} {tys ts : List CT} (ho : f.offset = o) (hc : P.cellsOf f.type = tys.length) (ht : TyC P f.type tys) (hr : TyF P fs (o + tys.length) ts) : TyF P (f :: fs) o (tys ++ ts)
end

section
variable {H : Type} {enc : TypeId × Value → H} {P : Program}
/-- What a reading weighs. -/
structure Weighs (bk : DataW H → Nat) : Prop where
  lit : ∀ l, 1 ≤ bk (.lit l)
  nil : 1 ≤ bk .nil
  sl : ∀ (l r : List (DataW H)), (l.map bk).sum + 1 ≤ bk (.slice l r)
  ag : ∀ l : List (DataW H), (l.map bk).sum ≤ bk (.agg l)

/-- A plain memory that only reads. -/
structure BS (W : World) (m : CM) (ι : Inj) : Prop where
  rel : Rel ι m W
  ro : ∀ b x, m.get b = some x → x.own = false
  cl : Clean m

theorem Rel.addRO {ι : Inj} {m : CM} {w : World} (hr : Rel ι m w) (hro : ∀ b x, m.get b = some x → x.own = false) {l : List Value} {e : Nat} {p : Pl} (hp : p.blk < w.heap.size) (hx : BRel (ι.ext m.next p) p w (.cells l e false)) :
    Rel (ι.ext m.next p) (m.alloc (.cells l e false)) w := by
  have hn : ι m.next = none := hr.fresh _ (Nat.le_refl _)
  have hle := Inj.le_ext (p := p) hn
  refine ⟨fun b hb => ?_, fun b q hq => ?_, fun b y hy => ?_, fun b b' y y' q q' hy hy' hne ho hl hq hq' => ?_⟩
  · simp only [CM.next_alloc] at hb
    simp only [Inj.ext]; rw [if_neg (by omega)]; exact hr.fresh b (by omega)
  · simp only [Inj.ext] at hq
    split at hq
    · cases hq; exact hp
    · exact hr.low _ _ hq
  · rw [CM.get_alloc] at hy
    split at hy
    · rename_i e'; subst e'; cases hy
      exact ⟨p, Inj.ext_same .., hx⟩
    · obtain ⟨q, hq, hb⟩ := hr.blk _ _ hy
      exact ⟨q, hle _ _ hq, hb.mono hle rfl⟩
  · rw [CM.get_alloc] at hy
    split at hy
    · cases hy; cases ho
    · rw [hro _ _ hy] at ho; cases ho
theorem keepAll_le {m m' : CM} (h : m.le m') : ∀ x z, keepAll m x = some z → keepAll m' x = some z := by
  intro x z hx
  unfold keepAll at *
  split at hx
  · rename_i hl; cases hx
    rw [if_pos (Nat.lt_of_lt_of_le hl h.1), h.2 x hl]
  · cases hx
theorem BS.add {W : World} {m : CM} {ι : Inj} (h : BS W m ι) {l : List Value} {e : Nat} {p : Pl} (hp : p.blk < W.heap.size) (hx : BRel (ι.ext m.next p) p W (.cells l e false)) (hl : ∀ σ : Nat → Nat, (∀ c, c < m.next → σ c = c) → l.map (ren σ) = l) :
    BS W (m.alloc (.cells l e false)) (ι.ext m.next p) := by
  refine ⟨h.rel.addRO h.ro hp hx, fun b x hb => ?_, fun b x hb => ?_⟩
  · rw [CM.get_alloc] at hb
    split at hb
    · cases hb; rfl
    · exact h.ro _ _ hb
  · rw [CM.get_alloc] at hb
    split at hb
    · rename_i e; cases hb
      exact ⟨by simp; omega, fun σ hs => by simp only [renB]; rw [hl σ fun c hc => hs c (by simp; omega)]⟩
    · obtain ⟨h1, h3⟩ := h.cl b x hb
      exact ⟨by simp; omega, fun σ hs => h3 σ fun c hc => hs c (by simp; omega)⟩
/-- An address that is never looked at. -/
theorem BS.alien {W : World} {m : CM} {ι : Inj} (h : BS W m ι) (hz : 0 < W.heap.size) (a : Addr) : BS W { m with next := m.next + 1 } (ι.ext m.next ⟨0, 0, 0, 0, some a⟩) := by
  have hn : ι m.next = none := h.rel.fresh _ (Nat.le_refl _)
  have hle := Inj.le_ext (p := ⟨0, 0, 0, 0, some a⟩) hn
  have hg : ∀ b, ({ m with next := m.next + 1 } : CM).get b = m.get b := fun b => rfl
  refine ⟨⟨fun b hb => ?_, fun b q hq => ?_, fun b y hy => ?_, fun b b' y y' q q' hy hy' hne ho hl hq hq' => ?_⟩, fun b x hb => h.ro b x hb, fun b x hb => ?_⟩
  · have : m.next + 1 ≤ b := hb
    simp only [Inj.ext]; rw [if_neg (by omega)]; exact h.rel.fresh b (by omega)
  · simp only [Inj.ext] at hq
    split at hq
    · cases hq; exact hz
    · exact h.rel.low _ _ hq
  · obtain ⟨q, hq, hb⟩ := h.rel.blk _ _ (show m.get b = some y from hy)
    exact ⟨q, hle _ _ hq, hb.mono hle rfl⟩
  · rw [h.ro _ _ (show m.get b = some y from hy)] at ho; cases ho
  · obtain ⟨h1, h3⟩ := h.cl b x hb
    exact ⟨Nat.lt_succ_of_lt h1, fun σ hs => h3 σ fun c hc => hs c (Nat.lt_succ_of_lt hc)⟩

/-- Rows, one behind the other. -/
def cat (rows : Nat → List Value) : Nat → List Value
  | 0 => []
  | n + 1 => cat rows n ++ rows n
theorem cat_length {rows : Nat → List Value} {e : Nat} : ∀ {n : Nat}, (∀ i, i < n → (rows i).length = e) → (cat rows n).length = n * e
  | 0, _ => by simp [cat]
  | n + 1, h => by rw [cat, List.length_append, cat_length fun i hi => h i (by omega), h n (by omega), Nat.succ_mul]
theorem cat_get {rows : Nat → List Value} {e : Nat} : ∀ {n : Nat}, (∀ i, i < n → (rows i).length = e) → ∀ {i j : Nat}, i < n → j < e → (cat rows n)[i * e + j]? = (rows i)[j]?
  | 0, _, _, _, hi, _ => by omega
  | n + 1, h, i, j, hi, hj => by
    rw [cat]
    have hl := cat_length fun i hi => h i (Nat.lt_succ_of_lt hi)
    by_cases e' : i = n
    · subst e'
      rw [List.getElem?_append_right (by omega), hl]; congr 1; omega
    · have h1 : i * e + j < n * e := by
        have : (i + 1) * e ≤ n * e := Nat.mul_le_mul_right e (by omega)
        rw [Nat.succ_mul] at this; omega
      rw [List.getElem?_append_left (by omega)]
      exact cat_get (fun i hi => h i (Nat.lt_succ_of_lt hi)) (by omega) hj

theorem trL_app {ι : Inj} : ∀ {a a' b b' : List Value}, trL ι a = some a' → trL ι b = some b' → trL ι (a ++ b) = some (a' ++ b')
  | [], a', b, b', h1, h2 => by simp [trL] at h1; subst h1; simpa using h2
  | v :: a, a', b, b', h1, h2 => by
    simp only [trL] at h1
    split at h1
    · rename_i v' l' h3 h4
      cases h1
      simp only [List.cons_append, trL, h3, trL_app h4 h2]
    · cases h1
theorem WTL.app {F : Keep} : ∀ {t ts : List CT} {k k' : Nat} {l l' : List Value}, WTL F t k l → WTL F ts k' l' → WTL F (t ++ ts) (k + k') (l ++ l')
  | [], _, _, _, _, _, .nil, h => by simpa using h
  | _ :: _, _, _, _, _, _, .cons h t, h' => by rw [List.cons_append, List.cons_append, Nat.add_assoc]; exact .cons h (t.app h')

/-- What one part is shown to be. -/
def Built (W : World) (bk : DataW H → Nat) (tys : List CT) (cs : List Value) (d : DataW H) : Prop :=
  ∀ m ι, BS W m ι → ∃ m' ι' l k, m.le m' ∧ ι.le ι' ∧ BS W m' ι' ∧ trL ι' l = some cs ∧ WTL (keepAll m') tys k l ∧ k ≤ bk d
theorem Built.flat {W : World} {bk : DataW H → Nat} {tys : List CT} {v : Value} {d : DataW H} (hv : ∀ ι, tr ι v = some v) (hw : ∀ F, WTL F tys 1 [v]) (hk : 1 ≤ bk d) : Built W bk tys [v] d :=
  fun m ι h => ⟨m, ι, [v], 1, .refl m, .refl ι, h, by simp [trL, hv], hw _, hk⟩
theorem built_fields {W : World} {bk : DataW H → Nat} : ∀ {fs : List Field} {o : Nat} {tys : List CT} {cs : List Value} {ds : List (DataW H)}, TyF P fs o tys → ds.length = fs.length → cs.length = o + tys.length →
    (∀ (i : Nat) (f : Field) (d : DataW H) (ts : List CT), fs[i]? = some f → ds[i]? = some d → TyC P f.type ts → P.cellsOf f.type = ts.length → Built W bk ts ((cs.drop f.offset).take (P.cellsOf f.type)) d) →
    ∀ m ι, BS W m ι → ∃ m' ι' l k, m.le m' ∧ ι.le ι' ∧ BS W m' ι' ∧ trL ι' l = some (cs.drop o) ∧ WTL (keepAll m') tys k l ∧ k ≤ (ds.map bk).sum
  | [], o, _, cs, ds, .nil, hl, hc, hb, m, ι, hs => by
    refine ⟨m, ι, [], 0, .refl m, .refl ι, hs, ?_, .nil, Nat.zero_le _⟩
    rw [List.drop_eq_nil_of_le (by simp at hc; omega)]; simp [trL]
  | f :: fs, o, _, cs, d :: ds, .cons (tys := t1) (ts := ts) ho hcc ht hr, hl, hc, hb, m, ι, hs => by
    obtain ⟨m1, ι1, l1, k1, a1, a2, a3, a4, a5, a6⟩ := hb 0 f d t1 rfl rfl ht hcc m ι hs
    obtain ⟨m2, ι2, l2, k2, b1, b2, b3, b4, b5, b6⟩ := built_fields (cs := cs) (ds := ds) hr (by simpa using hl) (by rw [hc, List.length_append]; omega) (fun i f' d' ts' h1 h2 => hb (i + 1) f' d' ts' (by simpa using h1) (by simpa using h2)) m1 ι1 a3
    refine ⟨m2, ι2, l1 ++ l2, k1 + k2, a1.trans b1, a2.trans b2, b3, ?_, (a5.mono (keepAll_le b1)).app b5, by simp only [List.map_cons, List.sum_cons]; omega⟩
    have := trL_app (trL_mono b2 _ _ a4) b4
    rw [this, ho, hcc]
    congr 1
    rw [show List.drop (o + t1.length) cs = (cs.drop o).drop t1.length by rw [List.drop_drop]]
    exact List.take_append_drop _ _
/-- A number of parts of one kind. -/
theorem built_rows {W : World} {bk : DataW H → Nat} {tys : List CT} {css : Nat → List Value} {ds : Nat → DataW H} : ∀ (n : Nat), (∀ i, i < n → Built W bk tys (css i) (ds i)) → ∀ m ι, BS W m ι →
    ∃ (m' : CM) (ι' : Inj) (rows : Nat → List Value) (ks : Nat → Nat), m.le m' ∧ ι.le ι' ∧ BS W m' ι' ∧ (∀ i, i < n → trL ι' (rows i) = some (css i) ∧ WTL (keepAll m') tys (ks i) (rows i) ∧ ks i ≤ bk (ds i))
  | 0, _, m, ι, hs => ⟨m, ι, fun _ => [], fun _ => 0, .refl m, .refl ι, hs, fun i hi => by omega⟩
  | n + 1, hb, m, ι, hs => by
    obtain ⟨m1, ι1, rows, ks, a1, a2, a3, a4⟩ := built_rows n (fun i hi => hb i (by omega)) m ι hs
    obtain ⟨m2, ι2, l, k, b1, b2, b3, b4, b5, b6⟩ := hb n (by omega) m1 ι1 a3
    refine ⟨m2, ι2, fun i => if i = n then l else rows i, fun i => if i = n then k else ks i, a1.trans b1, a2.trans b2, b3, fun i hi => ?_⟩
    by_cases e : i = n
    · subst e; simp only [if_true]; exact ⟨b4, b5, b6⟩
    · simp only [if_neg e]
      obtain ⟨c1, c2, c3⟩ := a4 i (by omega)
      exact ⟨trL_mono b2 _ _ c1, c2.mono (keepAll_le b1), c3⟩
theorem sumN_shift (ks : Nat → Nat) : ∀ n, sumN ks (n + 1) = ks 0 + sumN (fun i => ks (i + 1)) n
  | 0 => by simp [sumN]
  | n + 1 => by
    have := sumN_shift ks n
    simp only [sumN] at *
    omega
theorem sumN_sum {α : Type} {bk : α → Nat} : ∀ {l : List α} {ks : Nat → Nat}, (∀ (i : Nat) (x : α), l[i]? = some x → ks i ≤ bk x) → sumN ks l.length ≤ (l.map bk).sum
  | [], _, _ => by simp [sumN]
  | x :: l, ks, h => by
    have h1 := sumN_sum (l := l) (ks := fun i => ks (i + 1)) fun i y hy => h (i + 1) y (by simpa using hy)
    have h2 := h 0 x rfl
    rw [List.length_cons, sumN_shift]
    simp only [List.map_cons, List.sum_cons]
    omega
theorem sumN_prefix {ks : Nat → Nat} {n N : Nat} (h : n ≤ N) : sumN ks n ≤ sumN ks N := sumN_le h
theorem wtl_replicate {F : Keep} {tys : List CT} {rows : Nat → List Value} {ks : Nat → Nat} : ∀ n, (∀ i, i < n → WTL F tys (ks i) (rows i)) → WTL F (List.replicate n tys).flatten (sumN ks n) (cat rows n)
  | 0, _ => .nil
  | n + 1, h => by
    rw [List.replicate_succ', List.flatten_append]
    simp only [List.flatten_cons, List.flatten_nil, List.append_nil, sumN, cat]
    exact (wtl_replicate n fun i hi => h i (by omega)).app (h n (by omega))
theorem trL_cat {ι : Inj} {rows css : Nat → List Value} : ∀ n, (∀ i, i < n → trL ι (rows i) = some (css i)) → trL ι (cat rows n) = some (cat css n)
  | 0, _ => by simp [cat, trL]
  | n + 1, h => by rw [cat, cat]; exact trL_app (trL_cat n fun i hi => h i (by omega)) (h n (by omega))
theorem cat_split {e : Nat} : ∀ (n : Nat) (cs : List Value), cs.length = n * e → cat (fun i => (cs.drop (i * e)).take e) n = cs := by
  intro n cs h
  apply List.ext_getElem?
  intro q
  have hl : ∀ i, i < n → ((cs.drop (i * e)).take e).length = e := by
    intro i hi
    have : (i + 1) * e ≤ n * e := Nat.mul_le_mul_right e (by omega)
    rw [Nat.succ_mul] at this
    simp; omega
  by_cases hq : q < n * e
  · have he : 0 < e := by
      apply Nat.pos_of_ne_zero; rintro rfl; simp at hq
    have hi : q / e < n := (Nat.div_lt_iff_lt_mul he).2 hq
    have hj : q % e < e := Nat.mod_lt _ he
    have hqe : q / e * e + q % e = q := by rw [Nat.mul_comm]; exact Nat.div_add_mod q e
    have := cat_get (rows := fun i => (cs.drop (i * e)).take e) hl hi hj
    rw [hqe] at this
    rw [this, List.getElem?_take, if_pos hj, List.getElem?_drop, hqe]
  · rw [List.getElem?_eq_none (by rw [cat_length hl]; omega), List.getElem?_eq_none (by omega)]
theorem wtl_len {F : Keep} {tys : List CT} {k : Nat} {l : List Value} (h : WTL F tys k l) : l.length = tys.length := h.length

/-- THE READING, AS A PLAIN MEMORY. -/
theorem build {W : World} (hz : 0 < W.heap.size) {bk : DataW H → Nat} (hk : Weighs bk) {sp : Nat → Bool} (hsp : ∀ b, sp b = true) : ∀ (fuel : Nat) (t : TypeId) (tys : List CT) (cs : List Value) (x : DataW H × List MemPlace), TyC P t tys →
    DataW.trod enc P W 0 sp true fuel t cs = some x → Built W bk tys cs x.1
  | fuel, t, _, cs, x, .i hu, h => by
    cases fuel with
    | zero => simp [DataW.trod] at h
    | succ n =>
      unfold DataW.trod at h
      rw [hu] at h
      split at h <;> simp_all
      rename_i heq
      cases heq
      obtain ⟨_, rfl⟩ := h
      exact Built.flat (fun ι => by simp [tr]) (fun F => .cons (.i _) .nil) (hk.lit _)
  | fuel, t, _, cs, x, .s hu, h => by
    cases fuel with
    | zero => simp [DataW.trod] at h
    | succ n =>
      unfold DataW.trod at h
      rw [hu] at h
      split at h <;> simp_all
      obtain ⟨_, rfl⟩ := h
      exact Built.flat (fun ι => by simp [tr]) (fun F => .cons (.s _) .nil) (hk.lit _)
  | fuel, t, _, cs, x, .b hu, h => by
    cases fuel with
    | zero => simp [DataW.trod] at h
    | succ n =>
      unfold DataW.trod at h
      rw [hu] at h
      split at h <;> simp_all
      subst h
      exact Built.flat (fun ι => by simp [tr]) (fun F => .cons (.b _) .nil) (hk.lit _)
  | fuel, t, _, cs, x, .st hu hc hf, h => by
    obtain ⟨xs, n, rfl, rfl, hl, hlen, hx⟩ := DataW.trod_struct hu h
    intro m ι hs
    obtain ⟨m', ι', l, k, a1, a2, a3, a4, a5, a6⟩ := built_fields (bk := bk) (cs := cs) (ds := xs.map (·.1)) hf (by simp [hlen]) (by rw [hl, hc]; omega) (fun i f d ts h1 h2 h3 h4 => by
      rw [List.getElem?_map] at h2
      have hxi := hx i f (by simpa using h1)
      cases hy : xs[i]? with
      | none => rw [hy] at h2; cases h2
      | some y =>
        rw [hy] at h2 hxi; cases h2
        exact build hz hk hsp n f.type ts _ y h3 hxi) m ι hs
    exact ⟨m', ι', l, k, a1, a2, a3, by simpa using a4, a5, Nat.le_trans a6 (hk.ag _)⟩
  | fuel, t, _, cs, x, .ar (n := n) (tys := tys) (e := e) hu hc hc' he, h => by
    obtain ⟨xs, n', rfl, rfl, hl, hlen, hx⟩ := DataW.trod_array hu h
    intro m ι hs
    obtain ⟨m', ι', rows, ks, a1, a2, a3, a4⟩ := built_rows (bk := bk) (tys := tys) (css := fun i => (cs.drop (i * P.cellsOf e)).take (P.cellsOf e)) (ds := fun i => ((xs[i]?).map (·.1)).getD .nil) n (fun i hi => by
      have hxi := hx i hi
      have hy : xs[i]? = some (xs[i]'(by omega)) := List.getElem?_eq_getElem (by omega)
      rw [hy] at hxi
      simp only [hy, Option.map_some, Option.getD_some]
      exact build hz hk hsp n' e tys _ _ he hxi) m ι hs
    refine ⟨m', ι', cat rows n, sumN ks n, a1, a2, a3, ?_, wtl_replicate n fun i hi => (a4 i hi).2.1, ?_⟩
    · rw [trL_cat n fun i hi => (a4 i hi).1]
      congr 1
      exact cat_split n cs (by rw [hl, hc', hc])
    · refine Nat.le_trans ?_ (hk.ag _)
      have : sumN ks (xs.map (·.1)).length ≤ ((xs.map (·.1)).map bk).sum := sumN_sum fun i y hy => by
        have hi : i < n := by have := (List.getElem?_eq_some_iff.1 hy).1; simpa [hlen] using this
        have := (a4 i hi).2.2
        rw [List.getElem?_map] at hy
        cases hh : xs[i]? with
        | none => rw [hh] at hy; cases hy
        | some z => rw [hh] at hy; cases hy; simpa [hh] using this
      simpa [hlen] using this
  | fuel, t, _, cs, x, .sl (e := e) (tys := tys) hu hc hp he, h => by
    rcases DataW.trod_slice hu h with ⟨rfl, rfl⟩ | ⟨a, len, cap, elems, rest, n, rfl, rfl, rfl, _, hlc, hcm, hel, hE, hR, _⟩
    · intro m ι hs
      refine ⟨m, ι, [.slice none 0 0], 1, .refl m, .refl ι, hs, by simp [trL, tr], ?_, hk.nil⟩
      exact .cons (k := 1 + sumN (fun _ => 0) 0) (.sl (n := 0) (row := fun _ => []) (ks := fun _ => 0) (fun M _ => .inl ⟨rfl, rfl⟩) hp (fun i hi => by omega)) .nil
    · obtain ⟨hrl, hR⟩ := hR (hsp _)
      intro m ι hs
      by_cases hcap : cap = 0
      · -- nothing to be looked at
        have hl0 : len = 0 := by omega
        subst hcap; subst hl0
        have hle := Inj.le_ext (p := ⟨0, 0, 0, 0, some a⟩) (hs.rel.fresh _ (Nat.le_refl _))
        refine ⟨{ m with next := m.next + 1 }, _, [.slice (some ⟨m.next, 0, some 0⟩) 0 0], 1, ⟨Nat.le_succ m.next, fun _ _ => rfl⟩, hle, hs.alien hz a, ?_, ?_, Nat.le_trans (Nat.le_add_left _ _) (hk.sl _ _)⟩
        · simp [trL, tr, trS, Inj.ext_same]
        · refine .cons (k := 1 + sumN (fun _ => 0) 0) (.sl (n := 0) (row := fun _ => []) (ks := fun _ => 0) (fun M hM => ?_) hp (fun i hi => by omega)) .nil
          exact .inr (.inr ⟨_, rfl, (hM m.next _ (if_pos (Nat.lt_succ_self m.next))).1, rfl⟩)
      · have hall : ∀ i, i < cap → ∃ y, (W.cells? 0 (a.add (i * P.cellsOf e)) (P.cellsOf e)).bind (DataW.trod enc P W 0 sp true n e) = some y ∧ (elems ++ rest)[i]? = some y := by
          intro i hi
          by_cases hi2 : i < len
          · have h1 := hE i hi2
            have hy : elems[i]? = some (elems[i]'(by omega)) := List.getElem?_eq_getElem (by omega)
            exact ⟨_, h1.trans hy, by rw [List.getElem?_append_left (by omega)]; exact hy⟩
          · have h1 := hR (i - len) (by omega)
            rw [show len + (i - len) = i by omega] at h1
            have hy : rest[i - len]? = some (rest[i - len]'(by omega)) := List.getElem?_eq_getElem (by omega)
            exact ⟨_, h1.trans hy, by rw [List.getElem?_append_right (by omega), hel]; exact hy⟩
        have hall2 : ∀ i, i < cap → ∃ csi y, W.cells? 0 (a.add (i * P.cellsOf e)) (P.cellsOf e) = some csi ∧ DataW.trod enc P W 0 sp true n e csi = some y ∧ (elems ++ rest)[i]? = some y := by
          intro i hi
          obtain ⟨y, h1, h2⟩ := hall i hi
          rw [Option.bind_eq_some_iff] at h1
          obtain ⟨csi, h3, h4⟩ := h1
          exact ⟨csi, y, h3, h4, h2⟩
        let css : Nat → List Value := fun i => (W.cells? 0 (a.add (i * P.cellsOf e)) (P.cellsOf e)).getD []
        obtain ⟨m', ι', rows, ks, a1, a2, a3, a4⟩ := built_rows (bk := bk) (tys := tys) (css := css) (ds := fun i => (((elems ++ rest)[i]?).map (·.1)).getD .nil) cap (fun i hi => by
          obtain ⟨csi, y, h1, h2, h3⟩ := hall2 i hi
          simp only [css, h1, h3, Option.getD_some, Option.map_some]
          exact build hz hk hsp n e tys _ _ he h2) m ι hs
        have hrlen : ∀ i, i < cap → (rows i).length = tys.length := fun i hi => (a4 i hi).2.1.length
        have hcell : ∀ i j, i < cap → j < tys.length → W.cell? ((a.add (i * P.cellsOf e)).add j) = (css i)[j]? := by
          intro i j hi hj
          obtain ⟨csi, y, h1, h2, h3⟩ := hall2 i hi
          simp only [css, h1, Option.getD_some]
          exact (World.cells?_some h1).2.2 j (by rw [hc]; exact hj)
        have hspot : a.spot = none ∧ a.block < W.heap.size := by
          have h0 := hcell 0 0 (by omega) hp
          obtain ⟨csi, y, h1, h2, h3⟩ := hall2 0 (by omega)
          have hl := (World.cells?_some h1).2.1
          simp only [css, h1, Option.getD_some] at h0
          have hne : csi[0]? = some (csi[0]'(by omega)) := List.getElem?_eq_getElem (by omega)
          rw [hne] at h0
          simp only [Nat.zero_mul, Addr.add, if_true] at h0
          unfold World.cell? at h0
          split at h0
          · rename_i hb
            split at h0
            · cases h0
            · rename_i hsn
              refine ⟨by simpa using hsn, (Array.getElem?_eq_some_iff.1 hb).1⟩
          · cases h0
        have hadd : ∀ i j, (a.add (i * P.cellsOf e)).add j = ⟨a.block, a.off + (i * tys.length + j), none⟩ := by
          intro i j
          obtain ⟨ab, ao, as⟩ := a
          obtain ⟨rfl, _⟩ := hspot
          simp only [Addr.add, hc]
          by_cases h1 : i * tys.length = 0
          · rw [if_pos h1]
            by_cases h2 : j = 0
            · rw [if_pos h2, h1, h2]; rfl
            · rw [if_neg h2, h1, Nat.zero_add]
          · rw [if_neg h1]
            by_cases h2 : j = 0
            · rw [if_pos h2, h2]; rfl
            · rw [if_neg h2, Nat.add_assoc]
        have hrent : ∀ σ : Nat → Nat, (∀ c, c < m'.next → σ c = c) → (cat rows cap).map (ren σ) = cat rows cap := by
          intro σ hσ
          have : ∀ q, q ≤ cap → (cat rows q).map (ren σ) = cat rows q := by
            intro q
            induction q with
            | zero => intro _; rfl
            | succ q ih => intro hq; rw [cat, List.map_append, ih (by omega), (a4 q (by omega)).2.1.ren (fw_keepAll m') hσ]
          exact this cap (Nat.le_refl _)
        let p : Pl := ⟨a.block, a.off, cap * tys.length, tys.length, none⟩
        have hle2 := Inj.le_ext (p := p) (a3.rel.fresh _ (Nat.le_refl _))
        have hbr : BRel (ι'.ext m'.next p) p W (.cells (cat rows cap) tys.length false) := by
          refine ⟨rfl, by rw [cat_length hrlen]; exact Nat.le_refl _, fun q v hq => ?_, fun h => by cases h⟩
          have hql : q < cap * tys.length := by rw [← cat_length hrlen]; exact (List.getElem?_eq_some_iff.1 hq).1
          have hi : q / tys.length < cap := (Nat.div_lt_iff_lt_mul hp).2 hql
          have hj : q % tys.length < tys.length := Nat.mod_lt _ hp
          have hqe : q / tys.length * tys.length + q % tys.length = q := by rw [Nat.mul_comm]; exact Nat.div_add_mod q _
          have hg := cat_get hrlen hi hj
          rw [hqe, hq] at hg
          obtain ⟨v', h1, h2⟩ := trL_get (a4 _ hi).1 _ v hg.symm
          refine ⟨v', tr_mono hle2 _ _ h2, ?_⟩
          have := hcell _ _ hi hj
          rw [hadd, hqe, h1] at this
          exact this
        refine ⟨_, _, [.slice (some ⟨m'.next, 0, none⟩) len (cap + 1)], 1 + sumN ks len, a1.trans (CM.le_alloc ..), a2.trans hle2, a3.add hspot.2 hbr hrent, ?_, ?_, ?_⟩
        · obtain ⟨ab, ao, as⟩ := a
          obtain ⟨rfl, _⟩ := hspot
          simp [trL, tr, trS, Inj.ext_same, p, hlc]
        · have hkl := keepAll_le (CM.le_alloc m' (.cells (cat rows cap) tys.length false))
          refine .cons (k' := 0) (.sl (n := len) (row := rows) (ks := ks) (fun M hM => .inr (.inl ⟨m'.next, 0, cap + 1, cat rows cap, false, rfl, ?_⟩)) hp (fun i hi => (a4 i (by omega)).2.1.mono hkl)) .nil
          · have := hM m'.next (some (.cells (cat rows cap) tys.length false)) (by simp [keepAll, CM.get_alloc])
            refine ⟨this.1, this.2, fun i hi => ⟨hrlen i (by omega), fun j hj => ?_⟩⟩
            rw [Nat.zero_add]
            exact cat_get hrlen (by omega) hj
        · have h1 : sumN ks (elems.map (·.1)).length ≤ ((elems.map (·.1)).map bk).sum := sumN_sum fun i y hy => by
            have hi : i < len := by have := (List.getElem?_eq_some_iff.1 hy).1; simpa [hel] using this
            have := (a4 i (by omega)).2.2
            rw [List.getElem?_map] at hy
            rw [List.getElem?_append_left (by omega)] at this
            cases hh : elems[i]? with
            | none => rw [hh] at hy; cases hy
            | some z => rw [hh] at hy; cases hy; simpa [hh] using this
          have h2 := hk.sl (elems.map (·.1)) (rest.map (·.1))
          simp only [List.length_map, hel] at h1
          show 1 + sumN ks len ≤ bk (.slice _ _)
          omega
  termination_by fuel => fuel
end
end Go.Proofs.Ytjkfleibnojjaaa
end

section
namespace Go.Proofs.Ytjkfleibnojjaaa
open Go
section
variable {P : Program} {I T E S B : TypeId}
/-- slices.IndexFunc: the text. -/
def sIdx (P : Program) (I T E : TypeId) (R : CE → CM → Prop) (a0 a1 : Value) (m : CM) : Prop :=
  pop (clen P T a0 m) m (fun t7 m => loopA [0, 1, 4, 7, 8] (fun X1 ρ1 ds m => pop (cbin P BinOp.lss I (Operand.tmp 8) (Operand.tmp 7) (ρ1 8) (ρ1 7)) m (fun t9 m => cnd t9 (pop (cia P T (ρ1 0) (ρ1 8)) m (fun t14 m => pop (cload P E t14 m) m (fun t15 m => callv P (ρ1 1) [t15] m (fun t16 m => cnd t16 (leaveV P [.v (ρ1 8)] ds .ret m R) (pop (cbin P BinOp.add I (Operand.tmp 8) (Operand.const (Value.int IntKind.i64 1)) (ρ1 8) (.int .i64 1)) m (fun t18 m => X1 [(ρ1 0), (ρ1 1), (ρ1 4), (ρ1 7), t18] ds m))) (fun ch m => leaveV P [.v (ρ1 4)] ds (.pan ch) m R)))) (leaveV P [.v (.int .i64 (-1))] ds .ret m R))) [a0, a1, (.int .i64 0), t7, (.int .i64 0)] [] m)
theorem idx_ok {e : Nat} {a : Bool} (un : P.underlying T = some (.slice E)) (sz : szOf P E = some e) (ag : aggB P E = some a) (he : a = false → e = 1) {m : CM} {v f : Value} {n : Nat} {row : Nat → List Value} (hs : Sl e m v n row) (hn : n < 4611686018427387904) (Q : Nat → Bool → Prop)
    (hf : ∀ (i : Nat) (m' : CM), i < n → m.le m' → callv P f [elv a (row i)] m' (fun u m2 => ∃ b : Bool, u = .bool b ∧ m'.le m2 ∧ Q i b) (fun _ _ => False)) {K : Value → CM → Prop} {Kp : List PanicEntry → CM → Prop}
    (hK : ∀ (m' : CM) (i : Int), m.le m' → (i = -1 ∧ (∀ j, j < n → Q j false) ∨ ∃ j : Nat, j < n ∧ i = j ∧ Q j true) → K (.int .i64 i) m') : sIdx P I T E (RK K Kp) v f m := by
  unfold sIdx
  simp only [hs.len un, pop_some]
  refine loopA_of (fun l ds m' => ds = [] ∧ m.le m' ∧ ∃ i : Nat, i ≤ n ∧ (∀ j, j < i → Q j false) ∧ l = [v, f, .int .i64 0, .int .i64 n, .int .i64 i])
    (fun l _ => match l with | [_, _, _, _, .int _ i] => n - i.toNat | _ => 0) ⟨rfl, CM.le.refl m, 0, by omega, fun j hj => by omega, rfl⟩ ?_
  rintro X ρ ds m' ⟨rfl, hle, i, hi, hno, hl⟩ hX
  simp only [List.map_cons, List.map_nil, List.cons.injEq, and_true] at hl
  obtain ⟨h0, h1, h4, h7, h8⟩ := hl
  simp only [h0, h1, h4, h7, h8, cb_lss, pop_some]
  by_cases hc : i < n
  · have hc' : decide ((i : Int) < (n : Int)) = true := by simpa using hc
    obtain ⟨b, o, hia, hcel, hlen⟩ := (hs.le hle).at un sz (i := i) (by omega) (by omega)
    simp only [Int.toNat_natCast] at hcel hlen
    simp only [hc', cnd_true, hia, pop_some, hcel.elv ag sz hlen he]
    refine callv_mono (hf i m' hc hle) ?_ (fun _ _ h => h.elim)
    rintro u m'' ⟨b, rfl, hle', hq⟩
    cases b with
    | true =>
      simp only [cnd_true, leave1, RK_ret]
      exact hK _ _ (hle.trans hle') (.inr ⟨i, hc, rfl, hq⟩)
    | false =>
      simp only [cnd_false, cb_add, pop_some]
      refine hX _ _ _ ⟨rfl, hle.trans hle', i + 1, by omega, fun j hj => ?_, ?_⟩ ?_
      · by_cases e : j = i
        · subst e; exact hq
        · exact hno j (by omega)
      · rw [wrap_id (by omega) (by omega)]; simp
      · simp only [List.map_cons, List.map_nil, h8]
        rw [wrap_id (by omega) (by omega)]
        omega
  · have hc' : decide ((i : Int) < (n : Int)) = false := by simpa using hc
    simp only [hc', cnd_false, leave1, RK_ret]
    exact hK _ _ hle (.inl ⟨rfl, fun j hj => hno j (by omega)⟩)

/-- slices.ContainsFunc: the text. -/
def sCon (P : Program) (I : TypeId) (g : FuncId) (R : CE → CM → Prop) (a0 a1 : Value) (m : CM) : Prop :=
  callw P g [a0, a1] m (fun t7 m => pop (cbin P BinOp.geq I (Operand.tmp 7) (Operand.const (Value.int IntKind.i64 0)) t7 (.int .i64 0)) m (fun t8 m => leaveV P [.v t8] [] .ret m R)) (fun ch m => R (.pan ch) m)
theorem con_ok {g : FuncId} (hc : ∀ {a0 a1 : Value} {m : CM} {K : Value → CM → Prop} {Kp : List PanicEntry → CM → Prop}, sIdx P I T E (RK K Kp) a0 a1 m → callw P g [a0, a1] m K Kp)
    {e : Nat} {a : Bool} (un : P.underlying T = some (.slice E)) (sz : szOf P E = some e) (ag : aggB P E = some a) (he : a = false → e = 1) {m : CM} {v f : Value} {n : Nat} {row : Nat → List Value} (hs : Sl e m v n row) (hn : n < 4611686018427387904) (Q : Nat → Bool → Prop)
    (hf : ∀ (i : Nat) (m' : CM), i < n → m.le m' → callv P f [elv a (row i)] m' (fun u m2 => ∃ b : Bool, u = .bool b ∧ m'.le m2 ∧ Q i b) (fun _ _ => False)) {K : Value → CM → Prop} {Kp : List PanicEntry → CM → Prop}
    (hK : ∀ (m' : CM) (b : Bool), m.le m' → (b = false → ∀ j, j < n → Q j false) → (b = true → ∃ j, j < n ∧ Q j true) → K (.bool b) m') : sCon P I g (RK K Kp) v f m := by
  unfold sCon
  refine hc (idx_ok un sz ag he hs hn Q hf fun m' i hle h => ?_)
  simp only [cb_geq, pop_some, leave1, RK_ret]
  refine hK m' _ hle (fun hb => ?_) (fun hb => ?_)
  · rcases h with ⟨_, h⟩ | ⟨j, hj, rfl, _⟩
    · exact h
    · simp at hb
  · rcases h with ⟨rfl, h⟩ | ⟨j, hj, rfl, hq⟩
    · simp at hb
    · exact ⟨j, hj, hq⟩

/-- out, and its closure: the texts. -/
def sOut1 (P : Program) (I : TypeId) (R : CE → CM → Prop) (a0 a1 a2 : Value) (m : CM) : Prop :=
  pop (cload P I a1 m) m (fun t6 m => pop (cbin P BinOp.lss I (Operand.tmp 5) (Operand.tmp 6) a0 t6) m (fun t7 m => gop (gb t7 false) (fun K => K a0 m) (fun t9 m => gop (gb t7 false) (fun K => pop (cload P I a2 m) m K) (fun t10 m => gop (gb t7 false) (fun K => pop (cbin P BinOp.gtr I (Operand.tmp 9) (Operand.tmp 10) t9 t10) m K) (fun t11 m => pop (cpick t7 (.bool true) t11) m (fun t12 m => leaveV P [.v t12] [] .ret m R)) m) m) m))
def sOut (P : Program) (gc g1 : FuncId) (R : CE → CM → Prop) (a0 a1 a2 : Value) (m : CM) : Prop :=
  boxw a0 m (fun t3 m => boxw a1 m (fun t4 m => callw P gc [a2, (.func (Fn.func g1) ⟨[]⟩ ⟨[t3, t4]⟩)] m (fun t9 m => leaveV P [.v t9] [] .ret m R) (fun ch m => R (.pan ch) m)))
theorem out1_ok (ag : aggB P I = some false) {m : CM} {n lo hi : Int} {p q : Nat} (hp : Own m p [.int .i64 lo] 0) (hq : Own m q [.int .i64 hi] 0) {K : Value → CM → Prop} {Kp : List PanicEntry → CM → Prop}
    (hK : K (.bool (decide (n < lo) || decide (hi < n))) m) : sOut1 P I (RK K Kp) (.int .i64 n) (.pointer (some ⟨p, 0, none⟩)) (.pointer (some ⟨q, 0, none⟩)) m := by
  unfold sOut1
  have h1 : cload P I (.pointer (some ⟨p, 0, none⟩)) m = some (.int .i64 lo) := hp.cel.z ag rfl
  have h2 : cload P I (.pointer (some ⟨q, 0, none⟩)) m = some (.int .i64 hi) := hq.cel.z ag rfl
  simp only [h1, h2, pop_some, cb_lss, gb_bool, cb_gtr]
  by_cases h : n < lo <;> simp [h, gop_true, gop_false, pop_some, cpick, cb_gtr, h2, leave1, RK_ret] at hK ⊢ <;> exact hK
/-- What out is asked to be, in a seat: it answers false only if all numbers are from lo to hi. -/
def OutOk (P : Program) (F : FuncId) : Prop := ∀ (m : CM) (v : Value) (n : Nat) (x : Nat → Int) (lo hi : Int) (K : Value → CM → Prop) (Kp : List PanicEntry → CM → Prop), Sl 1 m v n (fun i => [.int .i64 (x i)]) → n < 4611686018427387904 →
  (∀ m' b, m.le m' → (b = false → ∀ j, j < n → lo ≤ x j ∧ x j ≤ hi) → K (.bool b) m') → callw P F [.int .i64 lo, .int .i64 hi, v] m K Kp
theorem out_ok (un : P.underlying T = some (.slice I)) (sz : szOf P I = some 1) (ag : aggB P I = some false) {F g1 gc gi : FuncId}
    (hF : ∀ {a0 a1 a2 : Value} {m : CM} {K : Value → CM → Prop} {Kp : List PanicEntry → CM → Prop}, sOut P gc g1 (RK K Kp) a0 a1 a2 m → callw P F [a0, a1, a2] m K Kp)
    (h1 : ∀ {a0 a1 a2 : Value} {m : CM} {K : Value → CM → Prop} {Kp : List PanicEntry → CM → Prop}, sOut1 P I (RK K Kp) a0 a1 a2 m → callw P g1 [a0, a1, a2] m K Kp)
    (hc : ∀ {a0 a1 : Value} {m : CM} {K : Value → CM → Prop} {Kp : List PanicEntry → CM → Prop}, sCon P I gi (RK K Kp) a0 a1 m → callw P gc [a0, a1] m K Kp)
    (hi : ∀ {a0 a1 : Value} {m : CM} {K : Value → CM → Prop} {Kp : List PanicEntry → CM → Prop}, sIdx P I T I (RK K Kp) a0 a1 m → callw P gi [a0, a1] m K Kp) : OutOk P F := by
  intro m v n x lo hi' K Kp hs hn hK
  refine hF ?_
  unfold sOut
  refine box_of fun p m1 hle1 hp ho1 => box_of fun q m2 hle2 hq ho2 => ?_
  have hle := hle1.trans hle2
  refine hc (con_ok hi un sz ag (fun _ => rfl) (hs.le hle) hn (fun i b => b = false → lo ≤ x i ∧ x i ≤ hi') (fun i m' hi hle' => ?_) fun m' b hle' hb _ => ?_)
  · show callw P g1 ([] ++ [.int .i64 (x i)] ++ [.pointer (some ⟨p, 0, none⟩), .pointer (some ⟨q, 0, none⟩)]) m' _ _
    refine h1 (out1_ok ag ((ho1.le hle2).le hle') (ho2.le hle') ⟨_, rfl, CM.le.refl _, fun h => ?_⟩)
    simp at h; omega
  · simp only [leave1, RK_ret]
    exact hK m' b (hle.trans hle') (fun h j hj => hb h j hj rfl)
/-- A slice that is written out. -/
theorem lit_of (un : P.underlying T = some (.slice E)) {e k : Nat} {z : List Value} (sz : szOf P E = some (e + 1)) (ze : zeroL P E = some z) (hz : z.length = e + 1) {ps : List (Nat × Value)} {c : List Value} (hk : k * (e + 1) ≤ 2 ^ 24)
    (hc : cfill (fun i => some (i * (e + 1), e + 1)) (zeros z k) ps = some c) {m : CM} {K : Value → CM → Prop}
    (h : ∀ b m', m.le m' → m.next ≤ b → Own m' b c (e + 1) → K (.slice (some ⟨b, 0, none⟩) k 0) m') : vop (cbuildS P T k ps m) K := by
  refine ⟨.slice (some ⟨m.next, 0, none⟩) k 0, m.alloc (.cells c (e + 1) true), ?_, h _ _ (CM.le_alloc ..) (Nat.le_refl _) ⟨by simp, by rw [CM.get_alloc, if_pos rfl]⟩⟩
  simp only [cbuildS, un, sz, ze]
  rw [if_pos ⟨hz, hk⟩, hc]
theorem sl_ints {m : CM} {b : Nat} {l : List Value} {xs : List Int} (h : Own m b l 1) (hl : l = xs.map (.int .i64)) : Sl 1 m (.slice (some ⟨b, 0, none⟩) xs.length 0) xs.length (fun i => [.int .i64 (xs.getD i 0)]) := by
  subst hl
  refine .inr (.inl ⟨b, 0, 0, _, true, rfl, h.1, h.2, fun i hi => ⟨rfl, fun j hj => ?_⟩⟩)
  have : j = 0 := by omega
  subst this
  simp [List.getD_eq_getElem?_getD, List.getElem?_eq_getElem hi]
/-- A call of out with numbers that are written out. -/
theorem outL (un : P.underlying T = some (.slice I)) (sz : szOf P I = some 1) (ze : zeroL P I = some [.int .i64 0]) {F : FuncId} (hF : OutOk P F) {xs : List Int} {k : Nat} {ps : List (Nat × Value)} (hx : xs.length = k) (hk : k ≤ 1000)
    (hc : cfill (fun i => some (i * 1, 1)) (zeros [.int .i64 0] k) ps = some (xs.map (.int .i64))) {m : CM} {lo hi : Int} {K : Value → CM → Prop} {Kp : List PanicEntry → CM → Prop}
    (h : ∀ b m', m.le m' → (b = false → ∀ x ∈ xs, lo ≤ x ∧ x ≤ hi) → K (.bool b) m') : vop (cbuildS P T k ps m) (fun t m1 => callw P F [.int .i64 lo, .int .i64 hi, t] m1 K Kp) := by
  refine lit_of un (e := 0) sz ze rfl (by omega) hc fun b m1 hle hb ho => ?_
  subst hx
  refine hF m1 _ _ _ lo hi K Kp (sl_ints ho rfl) (by omega) fun m' b' hle' hb' => h b' m' (hle.trans hle') fun e x hxm => ?_
  obtain ⟨i, hi, rfl⟩ := List.mem_iff_getElem.1 hxm
  have := hb' e i hi
  simpa [List.getD_eq_getElem?_getD, List.getElem?_eq_getElem hi] using this
end
end Go.Proofs.Ytjkfleibnojjaaa
end

section
namespace Go.Proofs.Ytjkfleibnojjaaa
open Go
section
variable {P : Program} {I I32 Str T E FT Sp : TypeId}
/-! ### wax.Name -/
def sName (P : Program) (I I32 Str : TypeId) (R : CE → CM → Prop) (a0 : Value) (m : CM) : Prop :=
  vop (crange P Str a0 m) (fun t7 m => loopA [0, 3, 7] (fun X1 ρ1 ds m => vop (cnext (ρ1 7) true m) (fun t8 m => pop (cext t8 0) m (fun t9 m => cnd t9 (pop (cext t8 2) m (fun t10 m => pop (cbin P BinOp.neq I32 (Operand.tmp 11) (Operand.const (Value.int IntKind.i32 45)) t10 (.int .i32 45)) m (fun t12 m => gop (gb t12 true) (fun K => K t10 m) (fun t14 m => gop (gb t12 true) (fun K => pop (cbin P BinOp.lss I32 (Operand.tmp 14) (Operand.const (Value.int IntKind.i32 97)) t14 (.int .i32 97)) m K) (fun t15 m => gop (gb t12 true) (fun K => K t15 m) (fun t16 m => gop (gb t16 false) (fun K => K t10 m) (fun t17 m => gop (gb t16 false) (fun K => pop (cbin P BinOp.gtr I32 (Operand.tmp 17) (Operand.const (Value.int IntKind.i32 122)) t17 (.int .i32 122)) m K) (fun t18 m => gop (gb t12 true) (fun K => pop (cpick t16 (.bool true) t18) m K) (fun t19 m => pop (cpick t12 t19 (.bool false)) m (fun t20 m => gop (gb t20 false) (fun K => K t10 m) (fun t22 m => gop (gb t20 false) (fun K => pop (cbin P BinOp.eql I32 (Operand.tmp 22) (Operand.const (Value.int IntKind.i32 45)) t22 (.int .i32 45)) m K) (fun t23 m => gop (gb t20 false) (fun K => K t23 m) (fun t24 m => gop (gb t24 true) (fun K => K (ρ1 3) m) (fun t25 m => gop (gb t24 true) (fun K => pop (cbin P BinOp.eql I32 (Operand.tmp 25) (Operand.const (Value.int IntKind.i32 45)) t25 (.int .i32 45)) m K) (fun t26 m => gop (gb t20 false) (fun K => pop (cpick t24 t26 (.bool false)) m K) (fun t27 m => pop (cpick t20 (.bool true) t27) m (fun t28 m => cnd t28 (leaveV P [.v (.bool false)] ds .ret m R) (X1 [(ρ1 0), t10, (ρ1 7)] ds m))) m) m) m) m) m) m)) m) m) m) m) m) m))) (pop (cbin P BinOp.neq I32 (Operand.tmp 30) (Operand.const (Value.int IntKind.i32 45)) (ρ1 3) (.int .i32 45)) m (fun t31 m => gop (gb t31 true) (fun K => K (ρ1 0) m) (fun t33 m => gop (gb t31 true) (fun K => pop (clen P Str t33 m) m K) (fun t34 m => gop (gb t31 true) (fun K => pop (cbin P BinOp.leq I (Operand.tmp 34) (Operand.const (Value.int IntKind.i64 20)) t34 (.int .i64 20)) m K) (fun t35 m => pop (cpick t31 t35 (.bool false)) m (fun t36 m => leaveV P [.v t36] ds .ret m R)) m) m) m))))) [a0, (.int .i32 45), t7] [] m)
def NameOk (P : Program) (F : FuncId) : Prop := ∀ (m : CM) (s : ByteArray) (K : Value → CM → Prop) (Kp : List PanicEntry → CM → Prop), (∀ m' b, m.le m' → K (.bool b) m') → callw P F [.string s] m K Kp
theorem width_pos (s : ByteArray) (pos : Nat) (h : pos < s.size) : 1 ≤ (Utf8.decode s pos).2 := by
  by_cases ha : (s[pos]'h).toNat < 128
  · rw [decode_ascii s pos h ha]; exact Nat.le_refl _
  · exact (decode_high s pos h (by omega)).2
theorem name_ok (un : P.underlying Str = some .string) {F : FuncId} (hF : ∀ {a0 : Value} {m : CM} {K : Value → CM → Prop} {Kp : List PanicEntry → CM → Prop}, sName P I I32 Str (RK K Kp) a0 m → callw P F [a0] m K Kp) : NameOk P F := by
  intro m s K Kp hK
  refine hF ?_
  unfold sName
  have hr : crange P Str (.string s) m = some (.pointer (some ⟨m.next, 0, none⟩), m.alloc (.siter s 0)) := by simp [crange, un]
  rw [hr, vop_some]
  refine loopA_of (fun l ds m' => ds = [] ∧ m.le m' ∧ m.next < m'.next ∧ ∃ (last : Int) (pos : Nat), m'.get m.next = some (.siter s pos) ∧ l = [.string s, .int .i32 last, .pointer (some ⟨m.next, 0, none⟩)])
    (fun _ m' => match m'.get m.next with | some (.siter s pos) => s.size - pos | _ => 0) ⟨rfl, CM.le_alloc .., by simp, 45, 0, by rw [CM.get_alloc, if_pos rfl], rfl⟩ ?_
  rintro X ρ ds m' ⟨rfl, hle, hlt, last, pos, hg, hl⟩ hX
  simp only [List.map_cons, List.map_nil, List.cons.injEq, and_true] at hl
  obtain ⟨h0, h3, h7⟩ := hl
  simp only [h0, h3, h7]
  by_cases hp : pos < s.size
  · have hc : cnext (.pointer (some ⟨m.next, 0, none⟩)) true m' = some (.tuple ⟨[.bool true, goInt pos, .int .i32 (Utf8.decode s pos).1]⟩, m'.put m.next (.siter s (pos + (Utf8.decode s pos).2))) := by
      simp [cnext, hg, hp]
    have hle2 : m.le (m'.put m.next (.siter s (pos + (Utf8.decode s pos).2))) := ⟨by simpa using hle.1, fun b hb => by rw [CM.get_put, if_neg (by omega)]; exact hle.2 b hb⟩
    rw [hc, vop_some]
    simp only [cext, List.getElem?_cons_zero, List.getElem?_cons_succ, pop_some, cnd_true, cb_neq]
    have hgo : X [.string s, .int .i32 (Utf8.decode s pos).1, .pointer (some ⟨m.next, 0, none⟩)] [] (m'.put m.next (.siter s (pos + (Utf8.decode s pos).2))) := by
      refine hX _ _ _ ⟨rfl, hle2, by simpa using hlt, _, _, by rw [CM.get_put, if_pos rfl], rfl⟩ ?_
      have := width_pos s pos hp
      rw [CM.get_put, if_pos rfl, hg]
      simp only []
      omega
    have hno : K (.bool false) (m'.put m.next (.siter s (pos + (Utf8.decode s pos).2))) := hK _ _ hle2
    generalize ((Utf8.decode s pos).1 : Int) = c at *
    generalize (m'.put m.next (.siter s (pos + (Utf8.decode s pos).2))) = m2 at *
    simp only [gb_bool]
    by_cases e1 : c = 45
    · subst e1
      cases e2 : (last == 45) with
      | true => simp [e2, gop_true, gop_false, pop_some, cb_eql, cpick_bool, cnd_true, cnd_false, gb_bool, gb_undef, leave1, RK_ret]; exact hno
      | false => simp [e2, gop_true, gop_false, pop_some, cb_eql, cpick_bool, cnd_true, cnd_false, gb_bool, gb_undef, leave1, RK_ret]; exact hgo
    · have b1 : (c != 45) = true := by simpa using e1
      have b2 : (c == 45) = false := by simpa using e1
      by_cases e2 : c < 97
      · simp [b1, b2, e2, gop_true, gop_false, pop_some, cb_lss, cb_eql, cpick_bool, cnd_true, cnd_false, gb_bool, gb_undef, leave1, RK_ret]; exact hno
      · by_cases e3 : 122 < c
        · simp [b1, b2, e2, e3, gop_true, gop_false, pop_some, cb_lss, cb_gtr, cb_eql, cpick_bool, cnd_true, cnd_false, gb_bool, gb_undef, leave1, RK_ret]; exact hno
        · simp [b1, b2, e2, e3, gop_true, gop_false, pop_some, cb_lss, cb_gtr, cb_eql, cpick_bool, cnd_true, cnd_false, gb_bool, gb_undef, leave1, RK_ret]; exact hgo
  · have hc : cnext (.pointer (some ⟨m.next, 0, none⟩)) true m' = some (.tuple ⟨[.bool false]⟩, m') := by simp [cnext, hg, hp]
    have hln : clen P Str (.string s) m' = some (.int .i64 s.size) := by simp [clen, un, goInt]
    rw [hc, vop_some]
    simp only [cext, List.getElem?_cons_zero, pop_some, cnd_false, cb_neq, gb_bool]
    cases e : (last != 45) with
    | false => simp [gop_false, cpick_bool, pop_some, leave1, RK_ret]; exact hK _ _ hle
    | true => simp [gop_true, cpick_bool, pop_some, leave1, RK_ret, hln, cb_leq]; exact hK _ _ hle

/-! ### turned -/
def sTurned1 (P : Program) (I Sp : TypeId) (R : CE → CM → Prop) (a0 : Value) (m : CM) : Prop :=
  boxw a0 m (fun t1 m => pop (cfa P Sp 0 t1) m (fun t3 m => pop (cload P I t3 m) m (fun t4 m => pop (cfa P Sp 1 t1) m (fun t5 m => pop (cload P I t5 m) m (fun t6 m => pop (cbin P BinOp.gtr I (Operand.tmp 4) (Operand.tmp 6) t4 t6) m (fun t7 m => leaveV P [.v t7] [] .ret m R))))))
/-! ### named -/
def sNamed1 (P : Program) (E FT Str : TypeId) (R : CE → CM → Prop) (a0 a1 a2 : Value) (m : CM) : Prop :=
  boxw a0 m (fun t3 m => pop (cload P FT a1 m) m (fun t5 _ => pop (cload P E t3 m) m (fun t6 _ => callv P t5 [t6] m (fun t7 m1_2 => m.le m1_2 ∧ pop (cload P Str a2 (memJ m [⟨t5, m.next, none⟩, ⟨t6, m.next, none⟩, ⟨t7, m.next, some m1_2⟩] (fun i => Nat.testBit 0 i) m1_2.next)) (memJ m [⟨t5, m.next, none⟩, ⟨t6, m.next, none⟩, ⟨t7, m.next, some m1_2⟩] (fun i => Nat.testBit 0 i) m1_2.next) (fun t8 _ => pop (cbin P BinOp.eql Str (Operand.tmp 7) (Operand.tmp 8) t7 t8) (memJ m [⟨t5, m.next, none⟩, ⟨t6, m.next, none⟩, ⟨t7, m.next, some m1_2⟩, ⟨t8, m1_2.next, none⟩] (fun _ => true) m1_2.next) (fun t9 m => leaveV P [.v t9] [] .ret m R))) (fun _ _ => False))))
def sNamed (P : Program) (I T E FT Str : TypeId) (nm cf cl : FuncId) (R : CE → CM → Prop) (a0 a1 : Value) (m : CM) : Prop :=
  boxw a1 m (fun t3 m => pop (clen P T a0 m) m (fun t8 m => pop (cbin P BinOp.sub I (Operand.tmp 8) (Operand.const (Value.int IntKind.i64 1)) t8 (.int .i64 1)) m (fun t9 m => pop (cload P FT t3 m) m (fun t10 _ => pop (cia P T a0 t9) m (fun t13 _ => pop (cload P E t13 m) m (fun t14 _ => callv P t10 [t14] m (fun t15 m2_5 => m.le m2_5 ∧ alw P Str (memJ m [⟨t10, m.next, none⟩, ⟨a0, m.next, none⟩, ⟨t9, m.next, none⟩, ⟨t13, m.next, none⟩, ⟨t14, m.next, none⟩, ⟨t15, m.next, some m2_5⟩] (fun i => Nat.testBit 0 i) m2_5.next) (fun t6 m2_6 => (memJ m [⟨t10, m.next, none⟩, ⟨a0, m.next, none⟩, ⟨t9, m.next, none⟩, ⟨t13, m.next, none⟩, ⟨t14, m.next, none⟩, ⟨t15, m.next, some m2_5⟩] (fun i => Nat.testBit 0 i) m2_5.next).le m2_6 ∧ sop (cstore P Str t6 t15 (memJ m [⟨t10, m.next, none⟩, ⟨a0, m.next, none⟩, ⟨t9, m.next, none⟩, ⟨t13, m.next, none⟩, ⟨t14, m.next, none⟩, ⟨t15, m.next, some m2_5⟩, ⟨t6, m2_5.next, some m2_6⟩] (fun _ => true) m2_6.next)) (fun _ m => pop (cload P Str t6 m) m (fun t17 m => callw P nm [t17] m (fun t18 m => pop (cun P UnOp.not t18) m (fun t19 m => cnd t19 (leaveV P [.v (.int .i64 6)] [] .ret m R) (pop (cslice P T a0 none (some t9) none m) m (fun t23 m => callw P cf [t23, (.func (Fn.func cl) ⟨[]⟩ ⟨[t3, t6]⟩)] m (fun t25 m => cnd t25 (leaveV P [.v (.int .i64 5)] [] .ret m R) (leaveV P [.v (.int .i64 0)] [] .ret m R)) (fun ch m => R (.pan ch) m))))) (fun ch m => R (.pan ch) m))))) (fun _ _ => False)))))))
theorem turned1_ok (agI : aggB P I = some false) (f0 : ∀ b, cfa P Sp 0 (.pointer (some ⟨b, 0, none⟩)) = some (.pointer (some ⟨b, 0, none⟩))) (f1 : ∀ b, cfa P Sp 1 (.pointer (some ⟨b, 0, none⟩)) = some (.pointer (some ⟨b, 1, none⟩)))
    {m : CM} {lo hi : Int} {K : Value → CM → Prop} {Kp : List PanicEntry → CM → Prop} (hK : ∀ m', m.le m' → K (.bool (decide (hi < lo))) m') : sTurned1 P I Sp (RK K Kp) (.agg ⟨[.int .i64 lo, .int .i64 hi]⟩) m := by
  unfold sTurned1
  refine box_of fun b m1 hle hb ho => ?_
  have h0 : cload P I (.pointer (some ⟨b, 0, none⟩)) m1 = some (.int .i64 lo) := ho.cel.z agI rfl
  have h1 : cload P I (.pointer (some ⟨b, 1, none⟩)) m1 = some (.int .i64 hi) := ho.cel.z agI rfl
  simp only [f0, f1, h0, h1, pop_some, cb_gtr, leave1, RK_ret]
  exact hK _ hle
def sTurned (P : Program) (cs cl : FuncId) (R : CE → CM → Prop) (a0 : Value) (m : CM) : Prop :=
  callw P cs [a0, (.func (.func cl) ⟨[]⟩ ⟨[]⟩)] m (fun t4 m => leaveV P [.v t4] [] .ret m R) (fun ch m => R (.pan ch) m)
/-- turned answers false only if no range has its ends turned. -/
def TurnedOk (P : Program) (F : FuncId) : Prop := ∀ (m : CM) (v : Value) (n : Nat) (x y : Nat → Int) (K : Value → CM → Prop) (Kp : List PanicEntry → CM → Prop), Sl 2 m v n (fun i => [.int .i64 (x i), .int .i64 (y i)]) → n < 4611686018427387904 →
  (∀ m' b, m.le m' → (b = false → ∀ j, j < n → x j ≤ y j) → K (.bool b) m') → callw P F [v] m K Kp
theorem turned_ok (un : P.underlying T = some (.slice Sp)) (sz : szOf P Sp = some 2) (ag : aggB P Sp = some true) (agI : aggB P I = some false) (f0 : ∀ b, cfa P Sp 0 (.pointer (some ⟨b, 0, none⟩)) = some (.pointer (some ⟨b, 0, none⟩))) (f1 : ∀ b, cfa P Sp 1 (.pointer (some ⟨b, 0, none⟩)) = some (.pointer (some ⟨b, 1, none⟩)))
    {F cl cs gi : FuncId} (hF : ∀ {a0 : Value} {m : CM} {K : Value → CM → Prop} {Kp : List PanicEntry → CM → Prop}, sTurned P cs cl (RK K Kp) a0 m → callw P F [a0] m K Kp)
    (h1 : ∀ {a0 : Value} {m : CM} {K : Value → CM → Prop} {Kp : List PanicEntry → CM → Prop}, sTurned1 P I Sp (RK K Kp) a0 m → callw P cl [a0] m K Kp)
    (hc : ∀ {a0 a1 : Value} {m : CM} {K : Value → CM → Prop} {Kp : List PanicEntry → CM → Prop}, sCon P I gi (RK K Kp) a0 a1 m → callw P cs [a0, a1] m K Kp)
    (hi : ∀ {a0 a1 : Value} {m : CM} {K : Value → CM → Prop} {Kp : List PanicEntry → CM → Prop}, sIdx P I T Sp (RK K Kp) a0 a1 m → callw P gi [a0, a1] m K Kp) : TurnedOk P F := by
  intro m v n x y K Kp hs hn hK
  refine hF ?_
  unfold sTurned
  refine hc (con_ok hi un sz ag (fun h => by cases h) hs hn (fun i b => b = false → x i ≤ y i) (fun i m' hi hle' => ?_) fun m' b hle' hb _ => ?_)
  · show callw P cl ([] ++ [.agg ⟨[.int .i64 (x i), .int .i64 (y i)]⟩] ++ []) m' _ _
    refine h1 (turned1_ok agI f0 f1 fun m2 hle2 => ⟨_, rfl, hle2, fun h => ?_⟩)
    simp at h; omega
  · simp only [leave1, RK_ret]
    exact hK m' b hle' (fun h j hj => hb h j hj rfl)
/-- A call of turned with ranges that are written out. -/
theorem turnedL (un : P.underlying T = some (.slice Sp)) (sz : szOf P Sp = some 2) (ze : zeroL P Sp = some [.int .i64 0, .int .i64 0]) {F : FuncId} (hF : TurnedOk P F) {xs : List (Int × Int)} {k : Nat} {ps : List (Nat × Value)} (hx : xs.length = k) (hk : k ≤ 1000)
    (hc : cfill (fun i => some (i * 2, 2)) (zeros [.int .i64 0, .int .i64 0] k) ps = some (cat (fun i => [.int .i64 (xs.getD i (0, 0)).1, .int .i64 (xs.getD i (0, 0)).2]) k)) {m : CM} {K : Value → CM → Prop} {Kp : List PanicEntry → CM → Prop}
    (h : ∀ b m', m.le m' → (b = false → ∀ x ∈ xs, x.1 ≤ x.2) → K (.bool b) m') : vop (cbuildS P T k ps m) (fun t m1 => callw P F [t] m1 K Kp) := by
  refine lit_of un (e := 1) sz ze rfl (by omega) hc fun b m1 hle hb ho => ?_
  refine hF m1 _ k (fun i => (xs.getD i (0, 0)).1) (fun i => (xs.getD i (0, 0)).2) K Kp (.inr (.inl ⟨b, 0, 0, _, true, rfl, ho.1, ho.2, fun i hi => ⟨rfl, fun j hj => ?_⟩⟩)) (by omega) fun m' b' hle' hb' => h b' m' (hle.trans hle') fun e x hxm => ?_
  · rw [Nat.zero_add]
    exact cat_get (rows := fun i => [.int .i64 (xs.getD i (0, 0)).1, .int .i64 (xs.getD i (0, 0)).2]) (fun _ _ => rfl) hi hj
  · obtain ⟨i, hi, rfl⟩ := List.mem_iff_getElem.1 hxm
    have := hb' e i (by omega)
    simpa [List.getD_eq_getElem?_getD, List.getElem?_eq_getElem hi] using this

/-- A function that reads the name of an element. -/
def NmOk (P : Program) (a : Bool) (g : FuncId) (R : List Value → Prop) : Prop := ∀ (m : CM) (r : List Value) (K : Value → CM → Prop) (Kp : List PanicEntry → CM → Prop), R r → (∀ m' s, m.le m' → K (.string s) m') → callw P g [elv a r] m K Kp
theorem get_memJ1 {m a : CM} {n : Nat} (b : Nat) : (⟨(m.over m.next (a.next - m.next) a).t, n⟩ : CM).get b = if m.next ≤ b ∧ b < m.next + (a.next - m.next) then a.get b else m.get b := get_over ..
theorem named1_ok {g : FuncId} {R : List Value → Prop} (hg : NmOk P true g R) (agE : aggB P E = some true) (agF : aggB P FT = some false) (agS : aggB P Str = some false) {m : CM} {r : List Value} (szE : szOf P E = some r.length) (hr : R r) {p q : Nat} {s : ByteArray}
    (hp : Own m p [.func (.func g) ⟨[]⟩ ⟨[]⟩] 0) (hq : Own m q [.string s] 0) {K : Value → CM → Prop} {Kp : List PanicEntry → CM → Prop} (hK : ∀ m' b, m.le m' → K (.bool b) m') :
    sNamed1 P E FT Str (RK K Kp) (.agg ⟨r⟩) (.pointer (some ⟨p, 0, none⟩)) (.pointer (some ⟨q, 0, none⟩)) m := by
  unfold sNamed1
  refine box_of fun b m1 hle hb ho => ?_
  have h1 : cload P FT (.pointer (some ⟨p, 0, none⟩)) m1 = some (.func (.func g) ⟨[]⟩ ⟨[]⟩) := (hp.le hle).cel.z agF rfl
  have h2 : cload P E (.pointer (some ⟨b, 0, none⟩)) m1 = some (.agg ⟨r⟩) := by
    have := ho.cel.za (j := 0) agE szE (by simp [toL])
    simpa [toL] using this
  rw [h1, pop_some, h2, pop_some]
  show callw P g ([] ++ [.agg ⟨r⟩] ++ []) m1 _ _
  refine hg m1 r _ _ hr fun m2 s2 hle2 => ⟨hle2, ?_⟩
  have hj0 : ∀ b, (memJ m1 [⟨Value.func (.func g) ⟨[]⟩ ⟨[]⟩, m1.next, none⟩, ⟨.agg ⟨r⟩, m1.next, none⟩, ⟨.string s2, m1.next, some m2⟩] (fun i => Nat.testBit 0 i) m2.next).get b = m1.get b := fun b => rfl
  have hcq : cload P Str (.pointer (some ⟨q, 0, none⟩)) (memJ m1 [⟨Value.func (.func g) ⟨[]⟩ ⟨[]⟩, m1.next, none⟩, ⟨.agg ⟨r⟩, m1.next, none⟩, ⟨.string s2, m1.next, some m2⟩] (fun i => Nat.testBit 0 i) m2.next) = some (.string s) := by
    simp only [cload, hj0, (hq.le hle).2, agS]; rfl
  simp only [elv, hcq, pop_some, cb_eql_str, leave1, RK_ret]
  refine hK _ _ (hle.trans ⟨hle2.1, fun x hx => ?_⟩)
  show (CM.get ⟨(m1.over m1.next (m2.next - m1.next) m2).t, m2.next⟩ x) = _
  rw [get_memJ1, if_neg (by omega)]
theorem named_ok {g F nm cf cl gi : FuncId} {R : List Value → Prop} (hg : NmOk P true g R) (hnm : NameOk P nm) (un : P.underlying T = some (.slice E)) {e : Nat} (szE : szOf P E = some e) (agE : aggB P E = some true) (he : 0 < e) (agF : aggB P FT = some false) (szS : szOf P Str = some 1) (zeS : zeroL P Str = some [.string ⟨#[]⟩]) (agS : aggB P Str = some false)
    (hF : ∀ {a0 a1 : Value} {m : CM} {K : Value → CM → Prop} {Kp : List PanicEntry → CM → Prop}, sNamed P I T E FT Str nm cf cl (RK K Kp) a0 a1 m → callw P F [a0, a1] m K Kp)
    (h1 : ∀ {a0 a1 a2 : Value} {m : CM} {K : Value → CM → Prop} {Kp : List PanicEntry → CM → Prop}, sNamed1 P E FT Str (RK K Kp) a0 a1 a2 m → callw P cl [a0, a1, a2] m K Kp)
    (hc : ∀ {a0 a1 : Value} {m : CM} {K : Value → CM → Prop} {Kp : List PanicEntry → CM → Prop}, sCon P I gi (RK K Kp) a0 a1 m → callw P cf [a0, a1] m K Kp)
    (hi : ∀ {a0 a1 : Value} {m : CM} {K : Value → CM → Prop} {Kp : List PanicEntry → CM → Prop}, sIdx P I T E (RK K Kp) a0 a1 m → callw P gi [a0, a1] m K Kp)
    {m : CM} {v : Value} {n : Nat} {row : Nat → List Value} (hs : Sl e m v n row) (hn0 : 0 < n) (hn : n < 4611686018427387904) (hR : ∀ i, i < n → R (row i)) {K : Value → CM → Prop} {Kp : List PanicEntry → CM → Prop} (hK : ∀ m' x, m.le m' → K (.int .i64 x) m') :
    callw P F [v, .func (.func g) ⟨[]⟩ ⟨[]⟩] m K Kp := by
  refine hF ?_
  unfold sNamed
  refine box_of fun p m1 hle1 hp hop => ?_
  have hs1 := hs.le hle1
  have hw : IntKind.i64.wrap ((n : Int) - 1) = (n : Int) - 1 := wrap_id (by omega) (by omega)
  obtain ⟨b, o, hia, hcel, hlen⟩ := hs1.at un szE (i := (n : Int) - 1) (by omega) (by omega)
  have hlr : R (row ((n : Int) - 1).toNat) := hR _ (by omega)
  have hlf : cload P FT (.pointer (some ⟨p, 0, none⟩)) m1 = some (.func (.func g) ⟨[]⟩ ⟨[]⟩) := hop.cel.z agF rfl
  have hle' : cload P E (.pointer (some ⟨b, o, none⟩)) m1 = some (elv true (row ((n : Int) - 1).toNat)) := hcel.elv agE szE hlen (fun h => by cases h)
  rw [hs1.len un, pop_some, cb_sub, pop_some, hlf, pop_some, hw, hia, pop_some, hle', pop_some]
  show callw P g ([] ++ [_] ++ []) m1 _ _
  refine hg m1 _ _ _ hlr fun m2 s hle2 => ⟨hle2, ?_⟩
  generalize hE0 : [_, _, _, _, _, _] = E0
  have hJ0 : memJ m1 E0 (fun i => Nat.testBit 0 i) m2.next = ⟨m1.t, m2.next⟩ := by subst hE0; rfl
  rw [hJ0]
  refine alw_of zeS fun q m3 hle3 hq hoq => ⟨hle3, ?_⟩
  have hle3n : m2.next ≤ m3.next := hle3.1
  have hqn : m2.next ≤ q := hq
  generalize hJ : memJ m1 _ (fun _ => true) m3.next = mJ
  have hJn : mJ.next = m3.next := by subst hJ; rfl
  have hJg : ∀ x, mJ.get x = if m2.next ≤ x ∧ x < m2.next + (m3.next - m2.next) then m3.get x else if m1.next ≤ x ∧ x < m1.next + (m2.next - m1.next) then m2.get x else m1.get x := by
    intro x
    subst hJ
    show CM.get ((m1.over m1.next (m2.next - m1.next) m2).over m2.next (m3.next - m2.next) m3) x = _
    rw [get_over, get_over]
  have hq3 := hoq.1
  have h12 := hle2.1
  have hleJ : m1.le mJ := ⟨by omega, fun x hx => by rw [hJg, if_neg (by omega), if_neg (by omega)]⟩
  have hoJ : Own mJ q [.string ⟨#[]⟩] 0 := ⟨by omega, by rw [hJg, if_pos (by omega)]; exact hoq.2⟩
  refine hoJ.store (by simp [toL, szS]) (by simp [toL]) (by simp [toL, one]) fun m4 hn4 hx4 ho4 => ?_
  have es : splice [.string ⟨#[]⟩] 0 (toL (.string s)) = [Value.string s] := by simp [splice, toL]
  rw [es] at ho4
  have hle4 : m1.le m4 := le_of_put hleJ (by omega) hn4 hx4
  rw [ho4.cel.z agS rfl, pop_some]
  refine hnm m4 s _ _ fun m5 b hle5 => ?_
  rw [cun_not, pop_some]
  have hle15 := hle4.trans hle5
  have hle05 := hle1.trans hle15
  cases b with
  | false => rw [show (!false) = true from rfl, cnd_true, leave1, RK_ret]; exact hK _ _ hle05
  | true =>
    rw [show (!true) = false from rfl, cnd_false]
    obtain ⟨v', hv', hs'⟩ := hs1.pre un szE he (i := (n : Int) - 1) (by omega) (by omega) hn0 hle15
    rw [hv', pop_some]
    refine hc (con_ok hi un szE agE (fun h => by cases h) (hs'.le hle15) (by omega) (fun _ _ => True) (fun i m' hi' hle6 => ?_) fun m' b hle6 _ _ => ?_)
    · show callw P cl ([] ++ [.agg ⟨row i⟩] ++ [.pointer (some ⟨p, 0, none⟩), .pointer (some ⟨q, 0, none⟩)]) m' _ _
      have hri : (row i).length = e := by
        obtain ⟨_, _, _, _, h⟩ := hs1.at un szE (i := i) (by omega) (by omega)
        simpa using h
      exact h1 (named1_ok hg agE agF agS (by rw [hri]; exact szE) (hR i (by omega)) ((hop.le hle15).le hle6) ((ho4.le hle5).le hle6) fun m7 b hle7 => ⟨b, rfl, hle7, trivial⟩)
    · cases b with
      | true => rw [cnd_true, leave1, RK_ret]; exact hK _ _ (hle05.trans hle6)
      | false => rw [cnd_false, leave1, RK_ret]; exact hK _ _ (hle05.trans hle6)
end
end Go.Proofs.Ytjkfleibnojjaaa
end
