/- Part 2 of 23 of the proof that the law TopAnewStore returns true and leaves its argument as it read before, for every input that the bounded statement admits (what it reads is of bulk at most 1048576). -/
import Derived.OrdersIn
import Derived.Test.YtjkfleibnojjaaaP01
section
namespace Go.Proofs.Ytjkfleibnojjaaa
open Go

theorem run_loadN {P : Program} {ι : Inj} {m : CM} {w : World} (hr : Rel ι m w) {b o n : Nat} {p : Pl} (hp : ι b = some p) {c : List Value} {esz : Nat} {own : Bool} (hb : m.get b = some (.cells c esz own))
    (hl : ((c.drop o).take n).length = n) : ∃ vs, (loadCells ⟨p.blk, p.off + o, none⟩ n).run P w = .ok ⟨vs⟩ w ∧ trL ι ((c.drop o).take n) = some vs := by
  obtain ⟨q, hq, h1, h2, h3, h4⟩ := hr.blk _ _ hb
  rw [hp] at hq; cases hq
  have hex : ∀ i, i < n → ∃ v', w.cell? ⟨p.blk, p.off + o + i, none⟩ = some v' ∧ ∃ u, ((c.drop o).take n)[i]? = some u ∧ tr ι u = some v' := by
    intro i hi
    have hlt : i < ((c.drop o).take n).length := by omega
    have e : ((c.drop o).take n)[i]? = some ((c.drop o).take n)[i] := List.getElem?_eq_getElem hlt
    have e2 : c[o + i]? = some ((c.drop o).take n)[i] := by
      rw [← e, List.getElem?_take, if_pos hi, List.getElem?_drop]
    obtain ⟨v', ht, hc⟩ := h3 _ _ e2
    exact ⟨v', by rw [Nat.add_assoc]; exact hc, _, e, ht⟩
  obtain ⟨vs, hvl, hvs⟩ : ∃ vs : List Value, vs.length = n ∧ ∀ (i : Nat) (v : Value), vs[i]? = some v → w.cell? ⟨p.blk, p.off + o + i, none⟩ = some v := by
    refine ⟨(List.range n).map fun i => (w.cell? ⟨p.blk, p.off + o + i, none⟩).getD undef, by simp, fun i v hv => ?_⟩
    simp only [List.getElem?_map] at hv
    have hi : i < n := by
      apply Nat.lt_of_not_le; intro hc
      rw [List.getElem?_eq_none (by simpa using hc)] at hv; simp at hv
    rw [List.getElem?_range hi] at hv
    simp at hv
    obtain ⟨v', hc, _⟩ := hex i hi
    rw [hc] at hv ⊢; simp at hv; rw [hv]
  refine ⟨vs, ?_, ?_⟩
  · have hrun := run_loadCellsFrom (P := P) (w := w) p.blk (p.off + o) n 0 #[] vs hvl (fun j u hu => by simpa using hvs j u hu)
    have e : (#[] ++ vs.toArray : Array Value) = ⟨vs⟩ := by simp
    rw [e] at hrun
    exact hrun
  · exact trL_of_get _ _ (by omega) (fun i u hu => by
      have hi : i < n := by
        apply Nat.lt_of_not_le; intro hc
        rw [List.getElem?_eq_none (by omega)] at hu; cases hu
      obtain ⟨v', hc, u', hu', ht⟩ := hex i hi
      rw [hu] at hu'; cases hu'
      have hlt : i < vs.length := by omega
      have e := List.getElem?_eq_getElem hlt
      have := hvs i _ e
      rw [hc] at this; cases this
      exact ⟨_, e, ht⟩)

/-- A slice's first n elements' cells. -/
def readS (m : CM) (x : Value) (sz : Nat) (n : Nat) : Option (List Value) :=
  match x with
  | .slice none 0 0 => if n = 0 then some [] else none
  | .slice (some ⟨_, _, some _⟩) 0 0 => if n = 0 then some [] else none
  | .slice (some ⟨b, o, none⟩) l _ =>
    match m.get b with
    | some (.cells c _ _) => let vs := (c.drop o).take (n * sz); if vs.length = n * sz ∧ n ≤ l then some vs else none
    | _ => none
  | .string s => if n = s.size then some (s.data.toList.map fun b => .int .u8 b.toNat) else none
  | _ => none
def lenV (x : Value) : Option Nat := match x with | .slice _ n _ => some n | .string s => some s.size | _ => none
theorem run_lenOf {P : Program} {ι : Inj} {x x' : Value} {n : Nat} (hx : tr ι x = some x') (h : lenV x = some n) (w : World) : (Builtin.lenOf x').run P w = .ok n w := by
  unfold lenV at h
  cases x <;> simp at h
  · have := tr_string hx; subst this; subst h; simp [Builtin.lenOf]
  · rename_i a l k
    subst h
    cases a with
    | none =>
      simp only [tr] at hx
      by_cases hc : l = 0 ∧ k = 0
      · rw [if_pos hc] at hx; cases hx; simp [Builtin.lenOf, hc.1]
      · rw [if_neg hc] at hx; cases hx
    | some a => simp only [tr] at hx; obtain ⟨y, c, rfl, _⟩ := trS_slice hx; simp [Builtin.lenOf]
theorem readS_run {P : Program} {ι : Inj} {m : CM} {w : World} (hr : Rel ι m w) {x x' : Value} {sz n : Nat} {vs : List Value} (hx : tr ι x = some x') (h : readS m x sz n = some vs) :
    ∃ vs', (Builtin.firstCells sz n x').run P w = .ok ⟨vs'⟩ w ∧ trL ι vs = some vs' := by
  unfold readS at h
  split at h
  · simp [tr] at hx; subst hx
    split at h
    · cases h; exact ⟨[], by simp [Builtin.firstCells], by simp [trL]⟩
    · cases h
  · simp only [tr] at hx
    obtain ⟨y, c, rfl, _⟩ := trS_slice hx
    split at h
    · rename_i hn; subst hn
      cases h; exact ⟨[], by simp [Builtin.firstCells, loadCells, loadCellsFrom], by simp [trL]⟩
    · cases h
  · rename_i b o l k _
    obtain ⟨p, hp, e, _⟩ := tr_slice hx
    subst e
    split at h
    · rename_i c esz own hb
      simp only at h
      split at h
      · rename_i hl
        cases h
        obtain ⟨vs', h1, h2⟩ := run_loadN (P := P) hr hp hb hl.1
        exact ⟨vs', by simpa [Builtin.firstCells] using h1, h2⟩
      · cases h
    · cases h
  · have e := tr_string hx; subst e
    split at h
    · rename_i s hn
      cases h
      refine ⟨s.data.toList.map fun b => .int .u8 b.toNat, ?_, ?_⟩
      · simp only [Builtin.firstCells, Sem.run_pure, hn]
        congr 1
        apply Array.ext'
        simp [ByteArray.extract_zero_size]
      · refine trL_of_get _ _ rfl (fun i v hv => ⟨v, hv, ?_⟩)
        simp only [List.getElem?_map] at hv
        cases hb : s.data.toList[i]? with
        | none => simp [hb] at hv
        | some b => simp [hb] at hv; subst hv; simp [tr]
    · cases h
  · cases h

theorem Rel.drew {ι : Inj} {m : CM} {w : World} (h : Rel ι m w) : Rel ι m w.drew :=
  ⟨h.fresh, h.low, fun b x hb => let ⟨p, hp, hx⟩ := h.blk b x hb; ⟨p, hp, hx.mono (.refl ι) rfl⟩, h.apart⟩
theorem Fr.of_drew {ι ι' : Inj} {m m' : CM} {w w' : World} (h : Fr ι m w.drew ι' m' w') : Fr ι m w ι' m' w' :=
  ⟨h.os, h.tape, h.output, h.size, h.keep, h.born, h.stay, h.next, h.old, h.inj⟩

theorem growBy_le {n : Nat} : ∀ (r c : Nat), c ≤ n + (n + 768) / 4 → Builtin.growBy n r c ≤ n + (n + 768) / 4
  | 0, c, h => by simpa [Builtin.growBy] using h
  | r + 1, c, h => by
    simp only [Builtin.growBy]
    by_cases hc : c ≥ n
    · rw [if_pos hc]; exact h
    · rw [if_neg hc]
      refine growBy_le r _ ?_
      have : (c + 768) / 4 ≤ (n + 768) / 4 := Nat.div_le_div_right (by omega)
      omega
theorem nextcap_le {n c : Nat} (h : c < n) : Builtin.nextslicecap n c ≤ 2 * n + 768 := by
  unfold Builtin.nextslicecap
  by_cases h1 : n > 2 * c
  · rw [if_pos h1]; omega
  · rw [if_neg h1]
    by_cases h2 : c < 256
    · rw [if_pos h2]; omega
    · rw [if_neg h2]
      have := growBy_le (n := n) 4 c (by omega)
      omega

def bytesOf' (P : Program) (t : TypeId) : Nat := ((P.info? t).map (·.bytes)).getD 0

def appArg (P : Program) (xT : TypeId) : Bool := match P.underlying xT with | some (.slice _) => true | some .string => true | _ => false
/-- append: what is there moves to a new block; where the old one had room the world writes in place. -/
def cappend (P : Program) (ts : List TypeId) (s x : Value) (m : CM) : Option (Value × CM) :=
  match ts with
  | [sT, xT] =>
    match P.underlying sT with
    | some (.slice e) =>
      if appArg P xT = true then
        match szOf P e, zeroL P e, lenV x with
        | some (sz + 1), some z, some n =>
          match readS m x (sz + 1) n with
          | some vs =>
            if vs.length = n * (sz + 1) ∧ z.length = sz + 1 ∧ vs.all one = true then
              match s with
              | .slice none 0 0 =>
                if n = 0 then some (.slice none 0 0, m)
                else if (2 * n + 1024) * bytesOf' P e ≤ 2 ^ 48 ∧ 0 < bytesOf' P e then some (.slice (some ⟨m.next, 0, none⟩) n 0, m.alloc (.cells vs (sz + 1) true)) else none
              | .slice (some ⟨b, o, none⟩) l k =>
                match m.get b with
                | some (.cells c esz own) =>
                  if esz = sz + 1 ∧ (2 * (l + n) + 1024) * bytesOf' P e ≤ 2 ^ 48 ∧ 0 < bytesOf' P e then
                    if k = 0 then
                      if o = 0 ∧ own = true ∧ c.length = l * (sz + 1) then
                        some (.slice (some ⟨m.next, 0, none⟩) (l + n) 0, (m.set b none).alloc (.cells (c ++ vs) (sz + 1) true))
                      else none
                    else if n = 0 then some (s, m)
                    else if k - 1 < l + n then
                      match readS m s (sz + 1) l with
                      | some old => if old.length = l * (sz + 1) then some (.slice (some ⟨m.next, 0, none⟩) (l + n) 0, m.alloc (.cells (old ++ vs) (sz + 1) true)) else none
                      | none => none
                    else none
                  else none
                | _ => none
              | _ => none
            else none
          | none => none
        | _, _, _ => none
      else none
    | _ => none
  | _ => none

/-- What is no longer looked at. The block of the old number is gone; the rest stands. -/
theorem get_forget {m : CM} {b : Nat} {x' : CB} (c : Nat) (y : CB) (h : ((m.set b none).alloc x').get c = some y) (hb : b < m.next) : (m.alloc x').get c = some y := by
  rw [CM.get_alloc] at h ⊢
  by_cases e : c = m.next
  · rw [if_pos (by exact e)] at h; rw [if_pos e]; exact h
  · rw [if_neg (by exact e), CM.get_set] at h; rw [if_neg e]
    by_cases e2 : c = b
    · rw [if_pos e2] at h; cases h
    · rw [if_neg e2] at h; exact h
theorem Rel.forget {ι : Inj} {m : CM} {w : World} {b : Nat} {x' : CB} (h : Rel ι (m.alloc x') w) (hlt : b < m.next) : Rel ι ((m.set b none).alloc x') w :=
  ⟨fun c hc => h.fresh c hc, h.low, fun c y hy => h.blk c y (get_forget c y hy hlt), fun c c' y y' p p' hy hy' => h.apart c c' y y' p p' (get_forget c y hy hlt) (get_forget c' y' hy' hlt)⟩
theorem Fr.forget {ι ι' : Inj} {m : CM} {w w' : World} {b : Nat} {x x' : CB} (h : Fr ι m w ι' (m.alloc x') w') (hr : Rel ι m w) (hb : m.get b = some x) : Fr ι m w ι' ((m.set b none).alloc x') w' :=
  have hlt := hr.lt hb
  ⟨h.os, h.tape, h.output, h.size, h.keep, fun c y p hy hp => h.born c y p (get_forget c y hy hlt) hp, fun c y y' hy hy' => h.stay c y y' hy (get_forget c y' hy' hlt), h.next, fun c hc hg => by
    have := h.old c hc hg
    rw [CM.get_alloc] at this ⊢
    rw [if_neg (by omega)] at this
    rw [if_neg (by show c ≠ m.next; omega), CM.get_set]
    split
    · rfl
    · exact this, h.inj⟩

theorem zeroCells_size (z : Array Value) (n : Nat) : (Builtin.zeroCells z n).size = n * z.size := by simp [Builtin.zeroCells]

/-- The world's append, where a new row is made. -/
theorem run_append_grow {P : Program} {sT xT e : TypeId} {base : Option Addr} {sLen sCap n sz : Nat} {x : Value} {old new : List Value} {z : Value} {w : World} (hu : P.underlying sT = some (.slice e))
    (hux : appArg P xT = true) (hsz : szOf P e = some sz) (hlen : (Builtin.lenOf x).run P w = .ok n w) (hgt : sCap < sLen + n)
    (hold : (Builtin.firstCells sz sLen (.slice base sLen sCap)).run P w.drew = .ok ⟨old⟩ w.drew) (hnew : (Builtin.firstCells sz n x).run P w.drew = .ok ⟨new⟩ w.drew) (hz : ∀ w, (zeroValue e).run P w = .ok z w)
    (hb : (2 * (sLen + n) + 1024) * bytesOf' P e ≤ 2 ^ 48) (hbs : (P.info? e).isSome = true) (hpos : 0 < bytesOf' P e) :
    ∃ newCap, sLen + n ≤ newCap ∧ (Builtin.append_ #[sT, xT] 0 #[.slice base sLen sCap, x]).run P w = .ok (.slice (some ⟨w.heap.size, 0, none⟩) (sLen + n) newCap) (w.drew.alloc (.cells (⟨old⟩ ++ ⟨new⟩ ++ Builtin.zeroCells z.cells (newCap - (sLen + n))) e)) := by
  obtain ⟨info, hi⟩ := Option.isSome_iff_exists.1 hbs
  have hbe : bytesOf' P e = info.bytes := by simp [bytesOf', hi]
  have hncle := nextcap_le hgt
  have hnb : ¬ (Builtin.nextslicecap (sLen + n) sCap * info.bytes > 2 ^ 48) := by
    rw [hbe] at hb
    have : Builtin.nextslicecap (sLen + n) sCap * info.bytes ≤ (2 * (sLen + n) + 1024) * info.bytes := Nat.mul_le_mul_right _ (by omega)
    omega
  have hq : (Question.appendCap (sLen + n) sCap e).forced = false := rfl
  refine ⟨(Question.appendCap (sLen + n) sCap e).cut (w.tape w.drawn (.appendCap (sLen + n) sCap e)), by simp only [Question.cut]; omega, ?_⟩
  have hle : ¬ (sLen + n ≤ sCap) := by omega
  have hb0 : ∀ q : Prop, ¬ (q ∧ info.bytes = 0) := by rintro q ⟨_, h⟩; omega
  cases hxu : P.underlying xT with
  | none => simp [appArg, hxu] at hux
  | some d =>
    cases d <;> simp [appArg, hxu] at hux <;>
      simp [Builtin.append_, underlying, hu, hxu, run_sizeOf hsz, hlen, hle, typeInfo, hi, hnb, choose, Sem.run, hq, newRow, hb0, hold, hnew, hz] <;>
      (rw [← Array.append_assoc]; simp)

/-- The world's append, where there is room. -/
theorem run_append_room {P : Program} {sT xT e : TypeId} {base : Option Addr} {sLen sCap n sz : Nat} {x : Value} {new : List Value} {w w' : World} (hu : P.underlying sT = some (.slice e))
    (hux : appArg P xT = true) (hsz : szOf P e = some sz) (hlen : (Builtin.lenOf x).run P w = .ok n w) (hgt : sLen + n ≤ sCap)
    (hnew : (Builtin.firstCells sz n x).run P w = .ok ⟨new⟩ w) (hst : (match base with | some a => storeCells (a.add (sLen * sz)) new | none => pure ()).run P w = .ok () w') :
    (Builtin.append_ #[sT, xT] 0 #[.slice base sLen sCap, x]).run P w = .ok (.slice base (sLen + n) sCap) w' := by
  cases hxu : P.underlying xT with
  | none => simp [appArg, hxu] at hux
  | some d =>
    cases d <;> simp [appArg, hxu] at hux <;> cases base <;> simp only [] at hst <;>
      simp [Builtin.append_, underlying, hu, hxu, run_sizeOf hsz, hlen, hgt, hnew, hst]
    all_goals (simp at hst; rw [hst])

theorem append_type (ts : Array TypeId) (t : TypeId) (args : Array Value) : Builtin.append_ ts t args = Builtin.append_ ts 0 args := rfl

theorem run_cappend {P : Program} {ι : Inj} {m m' : CM} {w : World} (hr : Rel ι m w) {ts : List TypeId} {t : TypeId} {s s' x x' v : Value} (hs : tr ι s = some s') (hx : tr ι x = some x') (h : cappend P ts s x m = some (v, m')) :
    ∃ ι' w' v', (Builtin.append_ ⟨ts⟩ t #[s', x']).run P w = .ok v' w' ∧ ι.le ι' ∧ Rel ι' m' w' ∧ tr ι' v = some v' ∧ Fr ι m w ι' m' w' := by
  unfold cappend at h
  split at h
  · rename_i sT xT
    split at h
    · rename_i e hu
      split at h
      · rename_i hux
        split at h
        · rename_i sz z n hsz hz hn
          split at h
          · rename_i vs hrd
            by_cases hc : vs.length = n * (sz + 1) ∧ z.length = sz + 1 ∧ vs.all one = true
            · rw [if_pos hc] at h
              obtain ⟨hvl, hzl, hone⟩ := hc
              obtain ⟨zv, hr0, hzv, hpz⟩ := run_zero hz w
              have hzrun : ∀ W : World, (zeroValue e).run P W = .ok zv W := by
                intro W
                unfold zeroL at hz
                cases hi : P.info? e with
                | none => simp [hi] at hz
                | some i =>
                  simp only [hi] at hz
                  cases hzz : i.zero with
                  | none => simp [hzz] at hz
                  | some zz =>
                    have a1 : (zeroValue e).run P W = .ok zz W := by simp [zeroValue, typeInfo, hi, hzz]
                    have a2 : (zeroValue e).run P w = .ok zz w := by simp [zeroValue, typeInfo, hi, hzz]
                    rw [a1]; rw [a2] at hr0; cases hr0; rfl
              have hinfo : (P.info? e).isSome = true := by
                unfold szOf at hsz
                cases hi : P.info? e with
                | none => simp [hi] at hsz
                | some i => rfl
              have hzc : zv.cells.size = sz + 1 := by rw [← Array.length_toList, toL_cells, hzv, hzl]
              have hlen : ∀ W : World, (Builtin.lenOf x').run P W = .ok n W := fun W => run_lenOf hx hn W
              -- a new row
              have grow : ∀ {base : Option Addr} {sLen sCap : Nat} {old old' : List Value}, s' = .slice base sLen sCap → sCap < sLen + n → trL ι old = some old' → old.length = sLen * (sz + 1) →
                  (Builtin.firstCells (sz + 1) sLen (.slice base sLen sCap)).run P w.drew = .ok ⟨old'⟩ w.drew → (2 * (sLen + n) + 1024) * bytesOf' P e ≤ 2 ^ 48 → 0 < bytesOf' P e →
                  ∃ ι' w' v', (Builtin.append_ ⟨[sT, xT]⟩ t #[s', x']).run P w = .ok v' w' ∧ ι.le ι' ∧ Rel ι' (m.alloc (.cells (old ++ vs) (sz + 1) true)) w' ∧ tr ι' (.slice (some ⟨m.next, 0, none⟩) (sLen + n) 0) = some v' ∧ Fr ι m w ι' (m.alloc (.cells (old ++ vs) (sz + 1) true)) w' := by
                intro base sLen sCap old old' he hgt ho hol hold hb hpos
                subst he
                obtain ⟨vs', hnew, htv⟩ := readS_run (P := P) hr.drew hx hrd
                obtain ⟨newCap, hcap, hrun⟩ := run_append_grow (P := P) (xT := xT) hu hux hsz (hlen w) hgt hold hnew hzrun hb hinfo hpos
                have hol' := trL_length ho
                have hvl' := trL_length htv
                have hsize : ((⟨old'⟩ ++ ⟨vs'⟩ ++ Builtin.zeroCells zv.cells (newCap - (sLen + n)) : Array Value)).size = newCap * (sz + 1) := by
                  simp only [Array.size_append, zeroCells_size, hzc, List.size_toArray, hol', hvl', hol, hvl]
                  rw [← Nat.add_mul, ← Nat.add_mul]; congr 1; omega
                have hle : sLen + n ≤ newCap := hcap
                obtain ⟨h1, h2⟩ := newCells hr.drew (c := old ++ vs) (arr := ⟨old'⟩ ++ ⟨vs'⟩ ++ Builtin.zeroCells zv.cells (newCap - (sLen + n))) e (sz + 1) (by
                    rw [hsize]; simp only [List.length_append, hol, hvl]; rw [← Nat.add_mul]; exact Nat.mul_le_mul_right _ hle) (fun i v hv => by
                  obtain ⟨v', hv', ht⟩ := trL_get (trL_append ho htv) i v hv
                  refine ⟨v', ht, ?_⟩
                  have hlt : i < (old' ++ vs').length := (List.getElem?_eq_some_iff.1 hv').1
                  rw [Array.getElem?_append_left (by simpa using hlt)]
                  simpa using hv')
                refine ⟨_, _, _, by rw [append_type]; exact hrun, Inj.le_ext (hr.fresh _ (Nat.le_refl _)), h1, ?_, h2.of_drew⟩
                simp only [tr, trS, Inj.ext_same, if_true, Nat.sub_zero, hsize]
                rw [Nat.mul_div_cancel _ (by omega), if_pos hle]
                rfl
              have hpos : 0 < bytesOf' P e → True := fun _ => trivial
              split at h
              · -- nil
                simp [tr] at hs; subst hs
                by_cases hn0 : n = 0
                · rw [if_pos hn0] at h; cases h
                  subst hn0
                  obtain ⟨vs', hnew, htv⟩ := readS_run (P := P) hr hx hrd
                  exact ⟨ι, w, .slice none 0 0, by rw [append_type]; exact run_append_room (P := P) hu hux hsz (hlen w) (Nat.le_refl _) hnew rfl, .refl ι, hr, by simp [tr], .refl ..⟩
                · rw [if_neg hn0] at h
                  by_cases hb : (2 * n + 1024) * bytesOf' P e ≤ 2 ^ 48 ∧ 0 < bytesOf' P e
                  · rw [if_pos hb] at h; cases h
                    have := grow (base := none) (sLen := 0) (sCap := 0) (old := []) (old' := []) rfl (by omega) (by simp [trL]) (by simp) (by simp [Builtin.firstCells]) (by simpa using hb.1) hb.2
                    simpa using this
                  · rw [if_neg hb] at h; cases h
              · rename_i b o l k
                obtain ⟨p, hp, es, hcap⟩ := tr_slice hs
                split at h
                · rename_i c esz own hb
                  by_cases hc2 : esz = sz + 1 ∧ (2 * (l + n) + 1024) * bytesOf' P e ≤ 2 ^ 48 ∧ 0 < bytesOf' P e
                  · rw [if_pos hc2] at h
                    obtain ⟨hez, hby, hpo⟩ := hc2
                    obtain ⟨q, hq, hpe, hlim, hcells, hown⟩ := hr.blk _ _ hb
                    rw [hp] at hq; cases hq
                    by_cases hk : k = 0
                    · rw [if_pos hk] at h
                      by_cases hc3 : o = 0 ∧ own = true ∧ c.length = l * (sz + 1)
                      · rw [if_pos hc3] at h; cases h
                        obtain ⟨ho0, hown', hcl⟩ := hc3
                        subst ho0
                        rw [hown'] at hb hown
                        obtain ⟨hoff, arr, ee, harr, hasz⟩ := hown rfl
                        generalize hcape : (if k = 0 then (p.lim - 0) / p.esz else k - 1) = cap at es hcap
                        rw [if_pos hk, Nat.sub_zero] at hcape
                        have hread : readS m (.slice (some ⟨b, 0, none⟩) l k) (sz + 1) l = some c := by
                          simp only [readS, hb, List.drop_zero]
                          rw [List.take_of_length_le (by omega), if_pos ⟨hcl, Nat.le_refl _⟩]
                        by_cases hroom : l + n ≤ cap
                        · -- in place
                          obtain ⟨vs', hnew, htv⟩ := readS_run (P := P) hr hx hrd
                          have hvl' := trL_length htv
                          have hlim2 : (l + n) * (sz + 1) ≤ p.lim := by
                            rw [← hcape, hpe, hez] at hroom
                            exact (Nat.le_div_iff_mul_le (by omega)).1 hroom
                          have hsum : l * (sz + 1) + n * (sz + 1) ≤ p.lim := by rw [← Nat.add_mul]; exact hlim2
                          obtain ⟨w', hst, hw⟩ := run_storeCells (P := P) p.blk (l * (sz + 1)) vs' 0 w arr ee (ones_tr htv hone) harr (by omega)
                          obtain ⟨arr', ha, hsz', hg⟩ := hw.block _ _ harr (by omega)
                          have hmv := hr.moveBlock hb rfl (x' := .cells (c ++ vs) (sz + 1) true) rfl hp (w' := w') (by
                            refine ⟨by rw [hpe, hez], by simp only [List.length_append, hcl, hvl]; exact hsum, fun i v hi => ?_, fun _ => ⟨hoff, arr', ee, ha, by rw [hsz', hasz]⟩⟩
                            have hcell : ∀ v', arr'[i]? = some v' → w'.cell? ⟨p.blk, p.off + i, none⟩ = some v' := fun v' hv' => by simp [World.cell?, ha, hoff, hv']
                            by_cases ci : i < c.length
                            · rw [List.getElem?_append_left ci] at hi
                              obtain ⟨v', ht, hcc⟩ := hcells _ _ hi
                              refine ⟨v', tr_mono (Inj.le_ext (hr.fresh _ (Nat.le_refl _))) _ _ ht, hcell v' ?_⟩
                              rw [hg i, if_pos (by omega)]
                              simpa [World.cell?, harr, hoff] using hcc
                            · rw [List.getElem?_append_right (by omega)] at hi
                              obtain ⟨v', hv', ht⟩ := trL_get htv _ _ hi
                              have hlt := (List.getElem?_eq_some_iff.1 hi).1
                              refine ⟨v', tr_mono (Inj.le_ext (hr.fresh _ (Nat.le_refl _))) _ _ ht, hcell v' ?_⟩
                              rw [hg i, if_neg (by omega), if_pos (by omega), ← hv']
                              congr 1; omega) hw.other hw.size hw.os hw.tape hw.output
                          refine ⟨_, w', .slice (some ⟨p.blk, p.off + 0, none⟩) (l + n) cap, ?_, Inj.le_ext (hr.fresh _ (Nat.le_refl _)), hmv.1, ?_, hmv.2⟩
                          · rw [append_type, es]
                            refine run_append_room (P := P) hu hux hsz (hlen w) hroom hnew ?_
                            simp only [addr_add, hoff, Nat.zero_add]
                            exact hst
                          · simp only [tr, trS, Inj.ext_same, if_true, Nat.sub_zero, hcape]
                            rw [if_pos hroom]
                        · -- a new row
                          obtain ⟨old', hold, hto⟩ := readS_run (P := P) hr.drew hs hread
                          have hg := grow (base := some ⟨p.blk, p.off + 0, none⟩) (sLen := l) (sCap := cap) es (by omega) hto hcl (by rw [es] at hold; exact hold) hby hpo
                          obtain ⟨ι', w', v', hrun, hle, hrel, htr, hfr⟩ := hg
                          refine ⟨ι', w', v', hrun, hle, ?_, htr, ?_⟩
                          · exact hrel.forget (hr.lt hb)
                          · exact hfr.forget hr hb
                      · rw [if_neg hc3] at h; cases h
                    · rw [if_neg hk] at h
                      generalize hcape : (if k = 0 then (p.lim - o) / p.esz else k - 1) = cap at es hcap
                      rw [if_neg hk] at hcape
                      by_cases hn0 : n = 0
                      · rw [if_pos hn0] at h; cases h
                        subst hn0
                        obtain ⟨vs', hnew, htv⟩ := readS_run (P := P) hr hx hrd
                        have hvl' := trL_length htv
                        have hv0 : vs' = [] := List.length_eq_zero_iff.1 (by omega)
                        subst hv0
                        refine ⟨ι, w, s', ?_, .refl ι, hr, hs, .refl ..⟩
                        rw [append_type, es]
                        exact run_append_room (P := P) (n := 0) hu hux hsz (hlen w) (by omega) hnew rfl
                      · rw [if_neg hn0] at h
                        by_cases hgt : k - 1 < l + n
                        · rw [if_pos hgt] at h
                          split at h
                          · rename_i old hro
                            by_cases hol : old.length = l * (sz + 1)
                            · rw [if_pos hol] at h; cases h
                              obtain ⟨old', hold, hto⟩ := readS_run (P := P) hr.drew hs hro
                              exact grow (base := some ⟨p.blk, p.off + o, none⟩) (sLen := l) (sCap := cap) es (by omega) hto hol (by rw [es] at hold; exact hold) hby hpo
                            · rw [if_neg hol] at h; cases h
                          · cases h
                        · rw [if_neg hgt] at h; cases h
                  · rw [if_neg hc2] at h; cases h
                · cases h
              · cases h
            · rw [if_neg hc] at h; cases h
          · cases h
        · cases h
      · cases h
    · cases h
  · cases h

section
variable {P : Program} {r : Option Nat} {o : Oper} {a : CA} {m : CM}
theorem op_append {ts : Array TypeId} {x y : Operand} {v : Value} {m' : CM} (ho : o.op = .call { callee := .builtin .append, args := #[x, y], argTypes := ts }) (hx : opdOk x = true) (hy : opdOk y = true)
    (h : cappend P ts.toList (a.ev x) (a.ev y) m = some (v, m')) : OpVal P r o a m v m' :=
  opVal_of_run (by simp [ho]) fun ι w aw hr ha => by
    obtain ⟨ι', w', v', hrun, hle, hrel, htr, hfr⟩ := run_cappend (t := o.type) hr (ha.ev hx) (ha.ev hy) h
    refine ⟨ι', w', v', .inl ?_, hle, hrel, htr, hfr⟩
    have e : (⟨ts.toList⟩ : Array TypeId) = ts := rfl
    rw [e] at hrun
    simp [execOp, ho, resolve, invoke, builtin, hrun]
end
end Go.Proofs.Ytjkfleibnojjaaa
end

section
namespace Go.Proofs.Ytjkfleibnojjaaa
open Go

section
variable {P : Program} {r : Option Nat} {o : Oper} {a : CA} {m : CM}

/-! ### make -/
def cmakeS (P : Program) (t : TypeId) (l c : Value) (m : CM) : Option (Value × CM) :=
  match P.underlying t, l, c with
  | some (.slice e), .int _ l, .int _ c =>
    match szOf P e, zeroL P e with
    | some (s + 1), some z =>
      if z.length = s + 1 ∧ 0 ≤ l ∧ l ≤ c ∧ c ≤ 2 ^ 62 ∧ (bytesOf' P e : Int) * c ≤ 2 ^ 48 then
        some (.slice (some ⟨m.next, 0, none⟩) l.toNat 0, m.alloc (.cells (zeros z l.toNat) (s + 1) true))
      else none
    | _, _ => none
  | _, _, _ => none
theorem wrap_small {n : Int} (h0 : 0 ≤ n) (h1 : n ≤ 2 ^ 62) : IntKind.i64.wrap n = n := by
  simp [IntKind.wrap, IntKind.signed, IntKind.bits]
  omega
theorem op_makeS {t : TypeId} {x y : Operand} {v : Value} {m' : CM} (ho : o.op = .makeSlice t x y) (hx : opdOk x = true) (hy : opdOk y = true) (h : cmakeS P t (a.ev x) (a.ev y) m = some (v, m')) : OpVal P r o a m v m' :=
  opVal_of_run (by simp [ho]) fun ι w aw hr ha => by
    have h0 := ha.ev hx
    have h1 := ha.ev hy
    unfold cmakeS at h
    split at h
    · rename_i e k1 l k2 c hu hl hc
      rw [hl] at h0; rw [hc] at h1
      have e0 := tr_int h0
      have e1 := tr_int h1
      split at h
      · rename_i s z hs hz
        by_cases hk : z.length = s + 1 ∧ 0 ≤ l ∧ l ≤ c ∧ c ≤ 2 ^ 62 ∧ (bytesOf' P e : Int) * c ≤ 2 ^ 48
        · rw [if_pos hk] at h; cases h
          obtain ⟨hzl, hl0, hlc, hc62, hby⟩ := hk
          obtain ⟨zv, hrz, hzv, hpz⟩ := run_zero hz w
          have hinfo : ∃ i, P.info? e = some i := by
            unfold szOf at hs
            cases hi : P.info? e with
            | none => simp [hi] at hs
            | some i => exact ⟨i, rfl⟩
          obtain ⟨info, hi⟩ := hinfo
          have hbe : bytesOf' P e = info.bytes := by simp [bytesOf', hi]
          rw [hbe] at hby
          have hzt : trL ι z = some z := by rw [← hzv]; exact trL_toL (tr_plain ι zv hpz)
          have hzz : zv.cells = ⟨z⟩ := Array.ext' (by rw [toL_cells, hzv])
          have hza := zeros_array z c.toNat
          rw [hzl] at hza
          have hza2 : Array.map (fun x => z[x % z.length]?.getD default) (Array.range (c.toNat * (s + 1))) = ⟨zeros z c.toNat⟩ := by simpa using hza
          obtain ⟨h2, h3⟩ := newCells hr (c := zeros z l.toNat) (arr := ⟨zeros z c.toNat⟩) e (s + 1) (by simp [zeros_length]; exact Nat.mul_le_mul_right _ (by omega)) (fun i v hv => by
            have hlt := (List.getElem?_eq_some_iff.1 hv).1
            rw [zeros_length] at hlt
            obtain ⟨v', hv', ht⟩ := trL_get (trL_zeros hzt l.toNat) i v hv
            refine ⟨v', ht, ?_⟩
            have hlt2 : i < c.toNat * z.length := Nat.lt_of_lt_of_le hlt (Nat.mul_le_mul_right _ (by omega))
            rw [zeros_get _ _ _ hlt] at hv'
            have := zeros_get z _ _ hlt2
            simp only [List.getElem?_toArray]
            rw [this]; exact hv')
          refine ⟨_, _, .slice (some ⟨w.heap.size, 0, none⟩) l.toNat c.toNat, .inl ?_, Inj.le_ext (hr.fresh _ (Nat.le_refl _)), h2, ?_, h3⟩
          · have w1 := wrap_small hl0 (by omega : l ≤ 2 ^ 62)
            have w2 := wrap_small (by omega : 0 ≤ c) hc62
            have c1 : ¬ (c < 0) := by omega
            have c2 : ¬ ((info.bytes : Int) * c > 2 ^ 48) := by omega
            have c3 : ¬ (l < 0) := by omega
            have c4 : ¬ (l > c) := by omega
            simp only [execOp, ho, e0, e1]
            simp only [Instr.makeSlice, Sem.run_bind, underlying, run_program, Result.andThen_ok, hu, Sem.run_pure, asInt, asIntOf, typeInfo, hi, w1, w2, c1, c2, c3, c4, decide_false, Bool.or_false, Bool.false_eq_true, if_false, run_askRoom, run_sizeOf hs w]
            by_cases h00 : c.toNat * (s + 1) = 0
            · have hc0 : c.toNat = 0 := by
                rcases Nat.mul_eq_zero.1 h00 with h | h
                · exact h
                · omega
              have e3 : Array.map (fun _ : Nat => (default : Value)) (Array.range 0) = #[] := Array.ext' (by simp)
              simp [hc0, zeros, newRow, e3]
            · simp [h00, hrz, hzz, hza2, newRow]
          · simp only [tr, trS, Inj.ext_same, if_true, Nat.sub_zero]
            have e2 : (⟨zeros z c.toNat⟩ : Array Value).size = c.toNat * (s + 1) := by simp [zeros_length, hzl]
            rw [e2, Nat.mul_div_cancel _ (by omega), if_pos (by omega)]
        · rw [if_neg hk] at h; cases h
      · cases h
    · cases h

/-! ### len, min, max, copy -/
def clen (P : Program) (t : TypeId) (x : Value) (m : CM) : Option Value :=
  match P.underlying t, x with
  | some .string, .string s => some (goInt s.size)
  | some (.array n _), _ => some (goInt n)
  | some (.slice _), .slice _ n _ => some (goInt n)
  | some (.map _ _), .map none => some (goInt 0)
  | some (.map _ _), .map (some b) => match m.get b with | some (.map es) => some (goInt es.length) | _ => none
  | _, _ => none
theorem MRel.length {ι : Inj} {l : List (Value × Value)} {l' : List MapEntry} (h : MRel ι l l') : l'.length = l.length := by
  induction h with
  | nil => rfl
  | cons _ _ _ ih => simp [ih]
theorem op_len {ts : Array TypeId} {t : TypeId} {x : Operand} {v : Value} (ho : o.op = .call { callee := .builtin .len, args := #[x], argTypes := ts }) (ht : ts[0]? = some t) (hx : opdOk x = true) (h : clen P t (a.ev x) m = some v) : OpVal P r o a m v m :=
  opVal_of_pure (by simp [ho]) fun ι w aw hr ha => by
    have h0 := ha.ev hx
    unfold clen at h
    split at h
    · rename_i s hu hs
      cases h
      rw [hs] at h0
      have e0 := tr_string h0
      exact ⟨goInt s.size, by simp [execOp, ho, resolve, invoke, builtin, Builtin.len_, ht, e0, underlying, hu], by simp [goInt, tr]⟩
    · rename_i n e hu
      cases h
      exact ⟨goInt n, by simp [execOp, ho, resolve, invoke, builtin, Builtin.len_, ht, underlying, hu], by simp [goInt, tr]⟩
    · rename_i e b n k hu hs
      cases h
      rw [hs] at h0
      refine ⟨goInt n, ?_, by simp [goInt, tr]⟩
      cases b with
      | none =>
        simp only [tr] at h0
        by_cases hc : n = 0 ∧ k = 0
        · rw [if_pos hc] at h0
          have e0 := Option.some.inj h0
          simp [execOp, ho, resolve, invoke, builtin, Builtin.len_, ht, underlying, hu, ← e0, hc.1]
        · rw [if_neg hc] at h0; cases h0
      | some b =>
        simp only [tr] at h0
        obtain ⟨y, c, e0, _⟩ := trS_slice h0
        simp [execOp, ho, resolve, invoke, builtin, Builtin.len_, ht, underlying, hu, e0]
    · rename_i k e hu hs
      cases h
      rw [hs] at h0
      simp [tr] at h0
      exact ⟨goInt 0, by simp [execOp, ho, resolve, invoke, builtin, Builtin.len_, ht, underlying, hu, ← h0], by simp [goInt, tr]⟩
    · rename_i k e b hu hs
      split at h
      · rename_i es hb
        cases h
        rw [hs] at h0
        obtain ⟨p, hp, en, clock, hw, hm⟩ := hr.blk _ _ hb
        simp [tr, hp] at h0
        have hl := hm.length
        refine ⟨goInt es.length, ?_, by simp [goInt, tr]⟩
        simp [execOp, ho, resolve, invoke, builtin, Builtin.len_, ht, underlying, hu, ← h0, getObj, Sem.run, hw, goInt]
        rw [← hl]; simp
      · cases h
    · cases h

def cmm (P : Program) (b : Builtin) (args : List Value) : Option Value :=
  if plainL args then
    match b with
    | .min => chk (pureRun P (Builtin.min_ #[] 0 ⟨args⟩))
    | .max => chk (pureRun P (Builtin.max_ #[] 0 ⟨args⟩))
    | _ => none
  else none
theorem plainL_tr {ι : Inj} : ∀ {l l' : List Value}, plainL l = true → trL ι l = some l' → l' = l
  | l, l', h, e => by rw [trL_plain ι l h] at e; cases e; rfl
theorem op_mm {b : Builtin} {ts : Array TypeId} {xs : Array Operand} {v : Value} (ho : o.op = .call { callee := .builtin b, args := xs, argTypes := ts }) (hx : xs.toList.all opdOk = true) (h : cmm P b (xs.toList.map a.ev) = some v) : OpVal P r o a m v m :=
  opVal_of_pure (by simp [ho]) fun ι w aw hr ha => by
    unfold cmm at h
    split at h
    · rename_i hp
      have e := plainL_tr hp (trL_map ha _ hx)
      have e2 : xs.map aw.eval = ⟨xs.toList.map a.ev⟩ := by rw [← e]; exact Array.ext' (by simp)
      have e3 : ∀ (ts : Array TypeId) (t : TypeId) (args : Array Value), Builtin.min_ ts t args = Builtin.min_ #[] 0 args := fun _ _ _ => rfl
      have e4 : ∀ (ts : Array TypeId) (t : TypeId) (args : Array Value), Builtin.max_ ts t args = Builtin.max_ #[] 0 args := fun _ _ _ => rfl
      split at h
      · obtain ⟨h1, h2⟩ := chk_some h
        have h3 := pureRun_run h1 w
        refine ⟨v, ?_, tr_plain ι v h2⟩
        simp only [execOp, ho, resolve, invoke, builtin, e2, Sem.run_bind, Sem.run_pure, Result.andThen_ok]
        rw [e3, h3]; rfl
      · obtain ⟨h1, h2⟩ := chk_some h
        have h3 := pureRun_run h1 w
        refine ⟨v, ?_, tr_plain ι v h2⟩
        simp only [execOp, ho, resolve, invoke, builtin, e2, Sem.run_bind, Sem.run_pure, Result.andThen_ok]
        rw [e4, h3]; rfl
      · cases h
    · cases h

def ccopy (P : Program) (ts : List TypeId) (d s : Value) (m : CM) : Option (Value × CM) :=
  match ts with
  | t :: _ =>
    match P.underlying t with
    | some (.slice e) =>
      match szOf P e, lenV d, lenV s with
      | some sz, some dn, some sn =>
        match readS m s sz (Nat.min sn dn) with
        | some vs =>
          match d with
          | .slice none 0 0 => some (goInt 0, m)
          | .slice (some ⟨b, o, none⟩) _ _ => match cstoreL b o vs m with | some m' => some (goInt (Nat.min sn dn), m') | none => none
          | .slice (some ⟨_, _, some _⟩) 0 0 => if vs = [] then some (goInt 0, m) else none
          | _ => none
        | none => none
      | _, _, _ => none
    | _ => none
  | _ => none
theorem op_copy {ts : Array TypeId} {x y : Operand} {v : Value} {m' : CM} (ho : o.op = .call { callee := .builtin .copy, args := #[x, y], argTypes := ts }) (hx : opdOk x = true) (hy : opdOk y = true)
    (h : ccopy P ts.toList (a.ev x) (a.ev y) m = some (v, m')) : OpVal P r o a m v m' :=
  opVal_of_run (by simp [ho]) fun ι w aw hr ha => by
    have h0 := ha.ev hx
    have h1 := ha.ev hy
    unfold ccopy at h
    split at h
    · rename_i t rest hts
      have ht : ts[0]? = some t := by rw [← Array.getElem?_toList, hts]; rfl
      split at h
      · rename_i e hu
        split at h
        · rename_i sz dn sn hs hd hsn
          split at h
          · rename_i vs hrd
            obtain ⟨vs', hnew, htv⟩ := readS_run (P := P) hr h1 hrd
            have hl1 := run_lenOf (P := P) h1 hsn w
            split at h
            · rename_i hda
              cases h
              rw [hda] at h0
              simp [tr] at h0
              have hd0 : dn = 0 := by rw [hda] at hd; simp [lenV] at hd; exact hd.symm
              subst hd0
              have hnew0 : (Builtin.firstCells sz 0 (aw.eval y)).run P w = .ok ⟨vs'⟩ w := by simpa using hnew
              refine ⟨ι, w, goInt 0, .inl ?_, .refl ι, hr, by simp [goInt, tr], .refl ..⟩
              simp [execOp, ho, resolve, invoke, builtin, Builtin.copy_, ht, underlying, hu, ← h0, hl1, run_sizeOf hs w, hnew0]
            · rename_i b off dl k hda
              split at h
              · rename_i m2 hst
                cases h
                rw [hda] at h0
                obtain ⟨p, hp, e0, _⟩ := tr_slice h0
                obtain ⟨h5, w', hrun, hr', hf⟩ := run_cstoreL (P := P) hr hp htv hst
                have hd0 : dn = dl := by rw [hda] at hd; simp [lenV] at hd; exact hd.symm
                subst hd0
                refine ⟨ι, w', goInt (Nat.min sn dn), .inl ?_, .refl ι, hr', by simp [goInt, tr], hf⟩
                rw [h5] at e0
                simp only [Nat.zero_add] at e0
                have hnew2 : (Builtin.firstCells sz (min sn dn) (aw.eval y)).run P w = .ok ⟨vs'⟩ w := hnew
                simp [execOp, ho, resolve, invoke, builtin, Builtin.copy_, ht, underlying, hu, e0, hl1, run_sizeOf hs w, hnew2, hrun]
              · cases h
            · rename_i b off s hda
              split at h
              · rename_i hv0
                cases h
                subst hv0
                have hv1 : vs' = [] := by simp [trL] at htv; exact htv
                subst hv1
                rw [hda] at h0
                simp only [tr] at h0
                obtain ⟨y', c, e0, _⟩ := trS_slice h0
                have hd0 : dn = 0 := by rw [hda] at hd; simp [lenV] at hd; exact hd.symm
                subst hd0
                have hnew2 : (Builtin.firstCells sz 0 (aw.eval y)).run P w = .ok #[] w := by simpa using hnew
                refine ⟨ι, w, goInt 0, .inl ?_, .refl ι, hr, by simp [goInt, tr], .refl ..⟩
                simp [execOp, ho, resolve, invoke, builtin, Builtin.copy_, ht, underlying, hu, e0, hl1, run_sizeOf hs w, hnew2, storeCells]
              · cases h
            · cases h
          · cases h
        · cases h
      · cases h
    · cases h

/-! ### A type assertion to a concrete type -/
def notI (P : Program) (t : TypeId) : Bool := match P.underlying t with | some (.interface _) => false | some _ => true | none => false
def cassert (P : Program) (x : Value) (t : TypeId) (ok : Bool) : Option Value :=
  if notI P t = true then
    match x, ok with
    | .iface u v, false => if u = t then some v else none
    | .iface u v, true => if u = t then some (.tuple ⟨[v, .bool true]⟩) else (match P.info? t with | some i => (match i.zero with | some z => if plainV z then some (.tuple ⟨[z, .bool false]⟩) else none | none => none) | none => none)
    | _, _ => none
  else none
theorem run_assert_hit {t xt : TypeId} {y : Value} (h : notI P t = true) (ok : Bool) (w : World) : (Instr.typeAssert (.iface t y) xt t ok).run P w = .ok (if ok then .tuple #[y, .bool true] else y) w := by
  unfold notI at h
  cases hu : P.underlying t with
  | none => simp [hu] at h
  | some d => cases d <;> simp [hu] at h <;> cases ok <;> simp [Instr.typeAssert, underlying, hu]
theorem run_assert_miss {t u xt : TypeId} {y z : Value} {i : TypeInfo} (h : notI P t = true) (hne : u ≠ t) (hi : P.info? t = some i) (hz : i.zero = some z) (w : World) : (Instr.typeAssert (.iface u y) xt t true).run P w = .ok (.tuple #[z, .bool false]) w := by
  unfold notI at h
  cases hu : P.underlying t with
  | none => simp [hu] at h
  | some d => cases d <;> simp [hu] at h <;> simp [Instr.typeAssert, underlying, hu, hne, zeroValue, typeInfo, hi, hz]
theorem op_assert {x : Operand} {xt t : TypeId} {ok : Bool} {v : Value} (ho : o.op = .typeAssert x xt t ok) (hx : opdOk x = true) (h : cassert P (a.ev x) t ok = some v) : OpVal P r o a m v m :=
  opVal_of_pure (by simp [ho]) fun ι w aw hr ha => by
    have h0 := ha.ev hx
    unfold cassert at h
    by_cases hn : notI P t = true
    · rw [if_pos hn] at h
      have open_ : ∀ {u : TypeId} {y : Value}, a.ev x = .iface u y → ∃ y', aw.eval x = .iface u y' ∧ tr ι y = some y' := by
        intro u y hy
        rw [hy] at h0
        simp only [tr] at h0
        cases h1 : tr ι y with
        | none => simp [h1] at h0
        | some y' => simp [h1] at h0; exact ⟨y', h0.symm, rfl⟩
      split at h
      · rename_i u y hy
        obtain ⟨y', e0, h1⟩ := open_ hy
        by_cases e : u = t
        · rw [if_pos e] at h; cases h; subst e
          exact ⟨y', by simp only [execOp, ho, e0]; simp [run_assert_hit hn], h1⟩
        · rw [if_neg e] at h; cases h
      · rename_i u y hy
        obtain ⟨y', e0, h1⟩ := open_ hy
        by_cases e : u = t
        · rw [if_pos e] at h; cases h; subst e
          exact ⟨.tuple #[y', .bool true], by simp only [execOp, ho, e0]; simp [run_assert_hit hn], by simp [tr, trL, h1]⟩
        · rw [if_neg e] at h
          split at h
          · rename_i i hi
            split at h
            · rename_i z hz
              by_cases hp : plainV z = true
              · rw [if_pos hp] at h; cases h
                exact ⟨.tuple #[z, .bool false], by simp only [execOp, ho, e0]; simp [run_assert_miss hn e hi hz], by simp [tr, trL, tr_plain ι z hp]⟩
              · rw [if_neg hp] at h; cases h
            · cases h
          · cases h
      · cases h
    · rw [if_neg hn] at h; cases h

/-! ### A walk over a string -/
def crange (P : Program) (t : TypeId) (x : Value) (m : CM) : Option (Value × CM) :=
  match P.underlying t, x with
  | some .string, .string s => some (.pointer (some ⟨m.next, 0, none⟩), m.alloc (.siter s 0))
  | _, _ => none
theorem op_range {t : TypeId} {x : Operand} {v : Value} {m' : CM} (ho : o.op = .range t x) (hx : opdOk x = true) (h : crange P t (a.ev x) m = some (v, m')) : OpVal P r o a m v m' :=
  opVal_of_run (by simp [ho]) fun ι w aw hr ha => by
    have h0 := ha.ev hx
    unfold crange at h
    split at h
    · rename_i s hu hs
      cases h
      rw [hs] at h0
      have e0 := tr_string h0
      have hn := hr.newBlock (x := .siter s 0) (p := ⟨w.heap.size, 0, 0, 0, none⟩) (ob := .stringIter s 0) rfl ⟨rfl, by show (w.heap.push _)[w.heap.size]? = _; simp⟩
      refine ⟨_, _, .pointer (some ⟨w.heap.size, 0, none⟩), .inl ?_, Inj.le_ext (hr.fresh _ (Nat.le_refl _)), hn.1, by simp [tr, trA, Inj.ext_same], hn.2⟩
      simp [execOp, ho, e0, Instr.range, underlying, hu]
    · cases h
def cnext (x : Value) (isS : Bool) (m : CM) : Option (Value × CM) :=
  match x, isS with
  | .pointer (some ⟨b, 0, none⟩), true =>
    match m.get b with
    | some (.siter s pos) =>
      if pos < s.size then
        some (.tuple ⟨[.bool true, goInt pos, .int .i32 (Utf8.decode s pos).1]⟩, m.put b (.siter s (pos + (Utf8.decode s pos).2)))
      else some (.tuple ⟨[.bool false]⟩, m)
    | _ => none
  | _, _ => none
theorem op_next {x : Operand} {isS : Bool} {v : Value} {m' : CM} (ho : o.op = .next x isS) (hx : opdOk x = true) (h : cnext (a.ev x) isS m = some (v, m')) : OpVal P r o a m v m' :=
  opVal_of_run (by simp [ho]) fun ι w aw hr ha => by
    have h0 := ha.ev hx
    unfold cnext at h
    split at h
    · rename_i b hb
      split at h
      · rename_i s pos hg
        rw [hb] at h0
        obtain ⟨p, hp, e0⟩ := tr_pointer h0
        obtain ⟨q, hq, hw⟩ := hr.blk _ _ hg
        rw [hp] at hq; cases hq
        obtain ⟨hoff, hw⟩ : p.off = 0 ∧ w.heap[p.blk]? = some (.stringIter s pos) := hw
        rw [hoff] at e0
        by_cases hpos : pos < s.size
        · rw [if_pos hpos] at h; cases h
          have hlt : p.blk < w.heap.size := (Array.getElem?_eq_some_iff.1 hw).1
          have hs := hr.setBlock hg rfl (x' := .siter s (pos + (Utf8.decode s pos).2)) rfl hp (w' := { w with heap := w.heap.setIfInBounds p.blk (.stringIter s (pos + (Utf8.decode s pos).2)) })
            ⟨hoff, by simp [hlt]⟩ (fun B hB => by simp [Ne.symm hB]) (by simp) rfl rfl rfl
          refine ⟨ι, _, .tuple #[.bool true, goInt pos, .int .i32 (Utf8.decode s pos).1], .inl ?_, .refl ι, hs.1, by simp [tr, trL, goInt], hs.2⟩
          simp [execOp, ho, e0, Instr.next, getObj, setObj, Sem.run, hw, hpos]
        · rw [if_neg hpos] at h; cases h
          refine ⟨ι, w, .tuple #[.bool false], .inl ?_, .refl ι, hr, by simp [tr, trL], .refl ..⟩
          simp [execOp, ho, e0, Instr.next, getObj, Sem.run, hw, hpos]
      · cases h
    · cases h
end
end Go.Proofs.Ytjkfleibnojjaaa
end

section
namespace Go.Proofs.Ytjkfleibnojjaaa
open Go

section
variable {P : Program} {r : Option Nat} {o : Oper} {a : CA} {m : CM}

/-! ### Maps -/
/-- The zero value of a type, if it bears no address. -/
def zeroV (P : Program) (t : TypeId) : Option Value :=
  match P.info? t with
  | some i => (match i.zero with | some z => (match plainV z with | true => some z | false => none) | none => none)
  | none => none
theorem run_zeroV {t : TypeId} {z : Value} (h : zeroV P t = some z) (w : World) : (zeroValue t).run P w = .ok z w ∧ plainV z = true := by
  unfold zeroV at h
  split at h
  · rename_i i hi
    split at h
    · rename_i z' hz
      split at h
      · rename_i hp
        cases h
        have hl : zeroL P t = some (toL z) := by simp [zeroL, hi, hz, hp]
        refine ⟨?_, hp⟩
        simp [zeroValue, typeInfo, hi, hz]
      · cases h
    · cases h
  · cases h
/-- Which entry has a key, where its kind is told at once. -/
def cfindN (kind : TypeDesc) (k : Value) : List (Value × Value) → Nat → Option (Option (Nat × Value))
  | [], _ => some none
  | e :: es, i =>
    match Instr.sameNow kind k e.1 with
    | some true => some (some (i, e.2))
    | some false => cfindN kind k es (i + 1)
    | none => none
def cfindA (P : Program) (kt : TypeId) (k : Value) : List (Value × Value) → Nat → Option (Option (Nat × Value))
  | [], _ => some none
  | e :: es, i =>
    match pureRun P (Op.equal kt k e.1) with
    | some true => some (some (i, e.2))
    | some false => cfindA P kt k es (i + 1)
    | none => none
def cfind (P : Program) (kt : TypeId) (k : Value) (es : List (Value × Value)) : Option (Option (Nat × Value)) :=
  match P.underlying kt with
  | some kind => (match cfindN kind k es 0 with | some r => some r | none => cfindA P kt k es 0)
  | none => none
def ckeyB (P : Program) (kt : TypeId) (k : Value) (emp : Bool) : Bool := keyOk k && (pureRun P (Instr.checkKey emp 10000 kt k)).isSome

/-- What was found, told in the world's values. -/
def FRel (ι : Inj) : Option (Nat × Value) → Option (Nat × Value) → Prop
  | none, none => True
  | some (i, v), some (j, v') => i = j ∧ tr ι v = some v'
  | _, _ => False
theorem findNow_rel {ι : Inj} {kind : TypeDesc} {k : Value} : ∀ {es : List (Value × Value)} {en : List MapEntry} (i : Nat), MRel ι es en →
    (match cfindN kind k es i with | some x => ∃ y, Instr.findNow kind k en i = some y ∧ FRel ι x y | none => Instr.findNow kind k en i = none)
  | [], [], i, _ => ⟨none, rfl, trivial⟩
  | (k0, v0) :: es, e :: en, i, h => by
    cases h with
    | cons hk hv h =>
      rename_i v' b
      simp only [cfindN, Instr.findNow]
      cases hs : Instr.sameNow kind k k0 with
      | none => rfl
      | some c =>
        cases c with
        | true => exact ⟨some (i, v'), rfl, rfl, hv⟩
        | false => exact findNow_rel (i + 1) h
theorem findAsk_rel {ι : Inj} {kt : TypeId} {k : Value} (w : World) : ∀ {es : List (Value × Value)} {en : List MapEntry} (i : Nat) {x : Option (Nat × Value)}, MRel ι es en → cfindA P kt k es i = some x →
    ∃ y, (Instr.findAsking kt k en i).run P w = .ok y w ∧ FRel ι x y
  | [], [], i, x, _, h => by
    simp only [cfindA] at h; cases h
    exact ⟨none, by simp [Instr.findAsking], trivial⟩
  | (k0, v0) :: es, e :: en, i, x, hm, h => by
    cases hm with
    | cons hk hv hm =>
      rename_i v' b
      simp only [cfindA] at h
      split at h
      · rename_i hb
        cases h
        exact ⟨some (i, v'), by simp [Instr.findAsking, pureRun_run hb w], rfl, hv⟩
      · rename_i hb
        obtain ⟨y, h1, h2⟩ := findAsk_rel w (i + 1) hm h
        exact ⟨y, by simp [Instr.findAsking, pureRun_run hb w, h1], h2⟩
      · cases h
theorem findKey_rel {ι : Inj} {kt : TypeId} {k : Value} (w : World) {es : List (Value × Value)} {en : List MapEntry} {x : Option (Nat × Value)} (hm : MRel ι es en) (h : cfind P kt k es = some x) :
    ∃ y, (Instr.findKey kt k en).run P w = .ok y w ∧ FRel ι x y := by
  unfold cfind at h
  split at h
  · rename_i kind hu
    have hn := findNow_rel (kind := kind) (k := k) 0 hm
    split at h
    · rename_i r hr
      cases h
      rw [hr] at hn
      obtain ⟨y, h1, h2⟩ := hn
      exact ⟨y, by simp [Instr.findKey, underlying, hu, h1], h2⟩
    · rename_i hr
      rw [hr] at hn
      obtain ⟨y, h1, h2⟩ := findAsk_rel (P := P) w 0 hm h
      exact ⟨y, by simp [Instr.findKey, underlying, hu, hn, h1], h2⟩
  · cases h
def centries (x : Value) (m : CM) : Option (List (Value × Value)) :=
  match x with
  | .map none => some []
  | .map (some b) => (match m.get b with | some (.map es) => some es | _ => none)
  | _ => none
/-- A look into a map. -/
def clk (P : Program) (t : TypeId) (x k : Value) (ok : Bool) (m : CM) : Option Value :=
  match P.underlying t with
  | some (.map kt et) =>
    (match centries x m with
    | some es =>
      (match ckeyB P kt k es.isEmpty with
      | true =>
        (match cfind P kt k es with
        | some (some (_, v)) => some (match ok with | true => .tuple ⟨[v, .bool true]⟩ | false => v)
        | some none => (match zeroV P et with | some z => some (match ok with | true => .tuple ⟨[z, .bool false]⟩ | false => z) | none => none)
        | none => none)
      | false => none)
    | none => none)
  | _ => none
def cmakeM (P : Program) (t : TypeId) (m : CM) : Value × CM := (.map (some m.next), m.alloc (.map []))
/-- An entry put, or turned. -/
def cmapU (P : Program) (t : TypeId) (x k v : Value) (m : CM) : Option CM :=
  match P.underlying t, x with
  | some (.map kt _), .map (some b) =>
    (match m.get b with
    | some (.map es) =>
      (match ckeyB P kt k false with
      | true =>
        (match cfind P kt k es with
        | some (some (i, _)) =>
          (match es[i]? with
          | some e => (match Instr.sameBits 10000 e.1 k with | true => some (m.put b (.map (es.set i (k, v)))) | false => none)
          | none => none)
        | some none => some (m.put b (.map (es ++ [(k, v)])))
        | none => none)
      | false => none)
    | _ => none)
  | _, _ => none

theorem tr_key {ι : Inj} {k k' : Value} (hk : keyOk k = true) (h : tr ι k = some k') : k' = k := by
  cases k with
  | bool _ => simpa [tr, eq_comm] using h
  | int _ _ => simpa [tr, eq_comm] using h
  | string _ => simpa [tr, eq_comm] using h
  | agg l =>
    obtain ⟨l⟩ := l
    have hp : plainV (.agg ⟨l⟩) = true := by
      simp only [keyOk] at hk
      simp only [plainV]
      clear h
      induction l with
      | nil => rfl
      | cons u l ih =>
        simp only [List.all_cons, Bool.and_eq_true] at hk
        simp only [plainL, Bool.and_eq_true]
        refine ⟨?_, ih hk.2⟩
        have := hk.1
        split at this <;> simp_all [plainV]
    have := tr_plain ι _ hp
    rw [h] at this
    exact Option.some.inj this
  | _ => simp [keyOk] at hk
theorem MRel.get {ι : Inj} : ∀ {es : List (Value × Value)} {en : List MapEntry}, MRel ι es en → ∀ {i : Nat} {e : Value × Value}, es[i]? = some e → ∃ v' b, en[i]? = some { key := e.1, val := v', born := b } ∧ tr ι e.2 = some v'
  | [], _, .nil, i, e, h => by simp at h
  | _ :: _, _, .cons hk hv hm, i, e, h => by
    cases i with
    | zero => simp at h; subst h; exact ⟨_, _, rfl, hv⟩
    | succ i => simp at h; obtain ⟨v', b, h1, h2⟩ := hm.get h; exact ⟨v', b, by simpa using h1, h2⟩
theorem MRel.set {ι : Inj} {k v v' : Value} (hk : keyOk k = true) (hv : tr ι v = some v') : ∀ {es : List (Value × Value)} {en : List MapEntry} (i : Nat), MRel ι es en → MRel ι (es.set i (k, v)) (en.modify i fun e => { e with key := k, val := v' })
  | [], _, i, .nil => by simp; exact .nil
  | _ :: _, _, 0, .cons _ _ h => by simp only [List.set_cons_zero, List.modify_zero_cons]; exact .cons hk hv h
  | _ :: _, _, i + 1, .cons hk' hv' h => by simp only [List.set_cons_succ, List.modify_succ_cons]; exact .cons hk' hv' (MRel.set hk hv i h)
theorem MRel.push {ι : Inj} {k v v' : Value} {b : Nat} (hk : keyOk k = true) (hv : tr ι v = some v') : ∀ {es : List (Value × Value)} {en : List MapEntry}, MRel ι es en → MRel ι (es ++ [(k, v)]) (en ++ [{ key := k, val := v', born := b }])
  | [], _, .nil => .cons hk hv .nil
  | _ :: _, _, .cons hk' hv' h => .cons hk' hv' (MRel.push hk hv h)
theorem tr_map {ι : Inj} {b : Nat} {v : Value} (h : tr ι (.map (some b)) = some v) : ∃ p, ι b = some p ∧ v = .map (some p.blk) := by
  simp only [tr] at h
  cases hp : ι b with
  | none => simp [hp] at h
  | some p => simp [hp] at h; exact ⟨p, rfl, h.symm⟩
theorem centries_run {ι : Inj} {w : World} (hr : Rel ι m w) {x x' : Value} {es : List (Value × Value)} (hx : tr ι x = some x') (h : centries x m = some es) :
    ∃ en : Array MapEntry, MRel ι es en.toList ∧ ((x' = .map none ∧ en = #[]) ∨ ∃ r clock, x' = .map (some r) ∧ w.heap[r]? = some (.map en clock)) := by
  unfold centries at h
  split at h
  · cases h; simp [tr] at hx; subst hx; exact ⟨#[], .nil, .inl ⟨rfl, rfl⟩⟩
  · rename_i b
    split at h
    · rename_i es' hg
      cases h
      obtain ⟨p, hp, rfl⟩ := tr_map hx
      obtain ⟨q, hq, en, clock, hw, hm⟩ := hr.blk _ _ hg
      rw [hp] at hq; cases hq
      exact ⟨en, hm, .inr ⟨_, clock, rfl, hw⟩⟩
    · cases h
  · cases h
theorem MRel.empty {ι : Inj} {es : List (Value × Value)} {en : Array MapEntry} (h : MRel ι es en.toList) : en.isEmpty = es.isEmpty := by
  have hs : en.size = es.length := by simpa using h.length
  have e1 : en.isEmpty = decide (en.size = 0) := rfl
  rw [e1]
  cases es with
  | nil => simp at hs; simp [hs]
  | cons _ _ => simp at hs; simp [hs]
theorem run_lookup {xt kt et : TypeId} {x k v' : Value} {ok okk : Bool} {en : Array MapEntry} {w : World} {y : Option (Nat × Value)} (hu : P.underlying xt = some (.map kt et))
    (hx : (x = .map none ∧ en = #[]) ∨ ∃ r clock, x = .map (some r) ∧ w.heap[r]? = some (.map en clock)) (hc : (Instr.checkKey en.isEmpty 10000 kt k).run P w = .ok () w) (hy : (Instr.findKey kt k en.toList).run P w = .ok y w)
    (hv : match y with | some (_, u) => v' = u ∧ okk = true | none => (zeroValue et).run P w = .ok v' w ∧ okk = false) : (Instr.lookup xt x k ok).run P w = .ok (if ok then .tuple #[v', .bool okk] else v') w := by
  have key : ∀ e : Sem (Array MapEntry), e.run P w = .ok en w → (do
      let es ← e
      Instr.checkKey es.isEmpty 10000 kt k
      let (v, ok') ← match ← Instr.findKey kt k es.toList with
        | some (_, v) => pure (v, true)
        | none => pure (← zeroValue et, false)
      pure (if ok then .tuple #[v, .bool ok'] else v) : Sem Value).run P w = .ok (if ok then .tuple #[v', .bool okk] else v') w := by
    intro e he
    simp only [Sem.run_bind, he, Result.andThen_ok, hc, hy]
    cases y with
    | none => obtain ⟨h1, rfl⟩ := hv; simp [h1]
    | some p => obtain ⟨i, u⟩ := p; obtain ⟨rfl, rfl⟩ := hv; simp
  rcases hx with ⟨rfl, rfl⟩ | ⟨r, clock, rfl, hw⟩
  · have := key (pure #[]) (by simp)
    simp only [Instr.lookup, Sem.run_bind, underlying, run_program, Result.andThen_ok, hu, Sem.run_pure] at this ⊢
    exact this
  · have hg : (getObj r).run P w = .ok (.map en clock) w := by simp [getObj, Sem.run, hw]
    have := key (pure en) (by simp)
    simp only [Instr.lookup, Sem.run_bind, underlying, run_program, Result.andThen_ok, hu, Sem.run_pure, hg] at this ⊢
    exact this
theorem op_lookup {t : TypeId} {x k : Operand} {ok : Bool} {v : Value} (ho : o.op = .lookup t x k ok) (hx : opdOk x = true) (hk : opdOk k = true) (h : clk P t (a.ev x) (a.ev k) ok m = some v) : OpVal P r o a m v m :=
  opVal_of_pure (by simp [ho]) fun ι w aw hr ha => by
    have h0 := ha.ev hx
    have h1 := ha.ev hk
    unfold clk at h
    split at h
    · rename_i kt et hu
      split at h
      · rename_i es hes
        obtain ⟨en, hm, hen⟩ := centries_run hr h0 hes
        split at h
        · rename_i hck
          simp only [ckeyB, Bool.and_eq_true] at hck
          obtain ⟨hko, hcs⟩ := hck
          obtain ⟨u, hu2⟩ := Option.isSome_iff_exists.1 hcs
          have ek := tr_key hko h1
          have hcr := pureRun_run hu2 w
          rw [← hm.empty] at hcr
          split at h
          · rename_i i u' hf
            cases h
            obtain ⟨y, hy, hfr⟩ := findKey_rel (P := P) w hm hf
            cases y with
            | none => exact hfr.elim
            | some p =>
              obtain ⟨j, u2⟩ := p
              obtain ⟨rfl, hu'⟩ := hfr
              have := run_lookup (ok := ok) (v' := u2) (okk := true) hu hen hcr hy ⟨rfl, rfl⟩
              refine ⟨if ok then .tuple #[u2, .bool true] else u2, by simp only [execOp, ho, ek, Sem.run_bind, this, Result.andThen_ok, Sem.run_pure], ?_⟩
              cases ok
              · exact hu'
              · simp [tr, trL, hu']
          · rename_i hf
            split at h
            · rename_i z hz
              cases h
              obtain ⟨y, hy, hfr⟩ := findKey_rel (P := P) w hm hf
              cases y with
              | some p => exact hfr.elim
              | none =>
                obtain ⟨hz1, hz2⟩ := run_zeroV hz w
                have := run_lookup (ok := ok) (v' := z) (okk := false) hu hen hcr hy ⟨hz1, rfl⟩
                refine ⟨if ok then .tuple #[z, .bool false] else z, by simp only [execOp, ho, ek, Sem.run_bind, this, Result.andThen_ok, Sem.run_pure], ?_⟩
                have hzt := tr_plain ι z hz2
                cases ok
                · exact hzt
                · simp [tr, trL, hzt]
            · cases h
          · cases h
        · cases h
      · cases h
    · cases h
theorem op_makeM {t : TypeId} (ho : o.op = .makeMap t none) : OpVal P r o a m (cmakeM P t m).1 (cmakeM P t m).2 :=
  opVal_of_run (by simp [ho]) fun ι w aw hr ha => by
    have hn := hr.newBlock (x := .map []) (p := ⟨w.heap.size, 0, 0, 0, none⟩) (ob := .map #[] 0) rfl ⟨#[], 0, by show (w.heap.push _)[w.heap.size]? = _; simp, .nil⟩
    refine ⟨_, _, .map (some w.heap.size), .inl ?_, Inj.le_ext (hr.fresh _ (Nat.le_refl _)), hn.1, by simp [cmakeM, tr, Inj.ext_same], hn.2⟩
    simp [execOp, ho, Instr.makeMap]
theorem op_mapU {t : TypeId} {x k v : Operand} {m' : CM} (ho : o.op = .mapUpdate t x k v) (hx : opdOk x = true) (hk : opdOk k = true) (hv : opdOk v = true) (h : cmapU P t (a.ev x) (a.ev k) (a.ev v) m = some m') : OpVal P r o a m undef m' :=
  opVal_of_run (by simp [ho]) fun ι w aw hr ha => by
    have h0 := ha.ev hx
    have h1 := ha.ev hk
    have h2 := ha.ev hv
    unfold cmapU at h
    split at h
    · rename_i kt et b hu hb
      split at h
      · rename_i es hg
        split at h
        · rename_i hck
          simp only [ckeyB, Bool.and_eq_true] at hck
          obtain ⟨hko, hcs⟩ := hck
          obtain ⟨u, hu2⟩ := Option.isSome_iff_exists.1 hcs
          have ek := tr_key hko h1
          have hcr := pureRun_run hu2 w
          rw [hb] at h0
          obtain ⟨p, hp, e0⟩ := tr_map h0
          obtain ⟨q, hq, en, clock, hw, hm⟩ := hr.blk _ _ hg
          rw [hp] at hq; cases hq
          have hlt : p.blk < w.heap.size := (Array.getElem?_eq_some_iff.1 hw).1
          split at h
          · rename_i i u' hf
            split at h
            · rename_i e he
              split at h
              · rename_i hsb
                cases h
                obtain ⟨y, hy, hfr⟩ := findKey_rel (P := P) w hm hf
                cases y with
                | none => exact hfr.elim
                | some pr =>
                obtain ⟨j, u2⟩ := pr
                obtain ⟨rfl, _⟩ := hfr
                obtain ⟨vv, bb, hen, _⟩ := hm.get he
                have hen' : en[i]? = some { key := e.1, val := vv, born := bb } := by rw [← Array.getElem?_toList]; exact hen
                have hs := hr.setBlock hg rfl (x' := .map (es.set i (a.ev k, a.ev v))) rfl hp (w' := { w with heap := w.heap.setIfInBounds p.blk (.map (en.modify i fun e => { e with key := a.ev k, val := aw.eval v }) clock) })
                  ⟨en.modify i fun e => { e with key := a.ev k, val := aw.eval v }, clock, by simp [hlt], by rw [Array.toList_modify]; exact hm.set hko h2 i⟩ (fun B hB => by simp [Ne.symm hB]) (by simp) rfl rfl rfl
                refine ⟨ι, _, undef, .inr ⟨?_, rfl⟩, .refl ι, hs.1, by simp [undef, tr, trL], hs.2⟩
                simp [execOp, ho, e0, ek, Instr.mapUpdate, underlying, hu, getObj, setObj, Sem.run, hw, hcr, hy, hen', Instr.keyThatStays, hsb]
              · cases h
            · cases h
          · rename_i hf
            cases h
            obtain ⟨y, hy, hfr⟩ := findKey_rel (P := P) w hm hf
            cases y with
            | some p => exact hfr.elim
            | none =>
              have hs := hr.setBlock hg rfl (x' := .map (es ++ [(a.ev k, a.ev v)])) rfl hp (w' := { w with heap := w.heap.setIfInBounds p.blk (.map (en.push { key := a.ev k, val := aw.eval v, born := clock }) (clock + 1)) })
                ⟨en.push { key := a.ev k, val := aw.eval v, born := clock }, clock + 1, by simp [hlt], by rw [Array.toList_push]; exact hm.push hko h2⟩ (fun B hB => by simp [Ne.symm hB]) (by simp) rfl rfl rfl
              refine ⟨ι, _, undef, .inr ⟨?_, rfl⟩, .refl ι, hs.1, by simp [undef, tr, trL], hs.2⟩
              simp [execOp, ho, e0, ek, Instr.mapUpdate, underlying, hu, getObj, setObj, Sem.run, hw, hcr, hy]
          · cases h
        · cases h
      · cases h
    · cases h
end
end Go.Proofs.Ytjkfleibnojjaaa
end

section
open Go Go.Proofs Go.Proofs.Ytjkfleibnojjaaa
set_option maxRecDepth 100000
namespace Go.Proofs.Ytjkfleibnojjaaa
section
variable {P : Program}
theorem pureRun_bind {α β : Type} (x : Sem α) (f : α → Sem β) : pureRun P (x >>= f) = (pureRun P x).bind fun a => pureRun P (f a) := by
  show pureRun P (Sem.bind x f) = _
  induction x with
  | pure a => simp [Sem.bind, pureRun]
  | program k ih => simp only [Sem.bind, pureRun]; exact ih _
  | mark a k ih => simp only [Sem.bind, pureRun]; exact ih
  | choose q k ih =>
    simp only [Sem.bind, pureRun]
    split
    · exact ih _
    · rfl
  | _ => simp [Sem.bind, pureRun]
theorem pureRun_pure {α : Type} (a : α) : pureRun P (pure a) = some a := rfl
theorem pr_program : pureRun P program = some P := rfl
theorem pr_underlying {t : TypeId} {d : TypeDesc} (un : P.underlying t = some d) : pureRun P (underlying t) = some d := by
  unfold underlying
  rw [pureRun_bind, pr_program, Option.bind_some, un]; rfl
end
/-! ### Things of numbers, held against each other -/
section
variable {P : Program}
theorem pr_forIn_all {α β : Type} (i d : β) (b : α → Bool) {f : α → β → Sem (ForInStep β)} : ∀ (l : List α), (∀ a ∈ l, pureRun P (f a i) = some (if b a then .yield i else .done d)) → pureRun P (forIn l i f) = some (if l.all b then i else d)
  | [], _ => by rw [List.forIn_nil]; rfl
  | a :: l, h => by
    rw [List.forIn_cons, pureRun_bind, h a (by simp), Option.bind_some]
    cases hb : b a with
    | true =>
      simp only [if_true, List.all_cons, hb, Bool.true_and]
      exact pr_forIn_all i d b l fun x hx => h x (by simp [hx])
    | false =>
      simp only [List.all_cons, hb, Bool.false_and, Bool.false_eq_true, if_false]
      rfl
theorem pr_sizeOf {t : TypeId} {n : Nat} (h : szOf P t = some n) : pureRun P (sizeOf t) = some n := by
  unfold szOf at h
  cases hi : P.info? t with
  | none => simp [hi] at h
  | some i =>
    simp [hi] at h
    unfold sizeOf typeInfo
    simp only [pureRun_bind, pr_program, Option.bind_some, hi, pureRun_pure]
    rw [h]
theorem eq_int {t : TypeId} {k : IntKind} (un : P.underlying t = some (.int k)) (d : Nat) (a b : Int) : pureRun P (Op.equalIn (d + 1) t (.int k a) (.int k b)) = some (a == b) := by
  unfold Op.equalIn
  rw [pureRun_bind, pr_underlying un, Option.bind_some]
  simp only [if_true]
  rfl
theorem eq_struct {t : TypeId} {fs : Array Field} (un : P.underlying t = some (.struct fs)) (hst : P.stoodInHeld t = false) (d : Nat) (xs ys : Array Value) (b : Field → Bool) (hnm : ∀ f ∈ fs.toList, (f.name != "_") = true)
    (h : ∀ f ∈ fs.toList, ∃ u v, pureRun P (part f.type xs f.offset) = some u ∧ pureRun P (part f.type ys f.offset) = some v ∧ pureRun P (Op.equalIn d f.type u v) = some (b f)) : pureRun P (Op.equalIn (d + 1) t (.agg xs) (.agg ys)) = some (fs.toList.all b) := by
  unfold Op.equalIn
  rw [pureRun_bind, pr_underlying un, Option.bind_some]
  simp only []
  rw [pureRun_bind, pr_program, Option.bind_some, hst]
  simp only [Bool.false_eq_true, if_false]
  rw [← Array.forIn_toList, pureRun_bind, pr_forIn_all (none, PUnit.unit) (some false, PUnit.unit) b]
  · cases hb : fs.toList.all b <;> simp [hb] <;> rfl
  · intro f hf
    obtain ⟨u, v, hu, hv, he⟩ := h f hf
    have hn : f.name ≠ "_" := by simpa using hnm f hf
    rw [if_pos hn, pureRun_bind, hu, Option.bind_some, pureRun_bind, hv, Option.bind_some, pureRun_bind, he, Option.bind_some]
    cases b f <;> rfl
theorem eq_array {t e : TypeId} {n s : Nat} (un : P.underlying t = some (.array n e)) (sz : szOf P e = some s) (d : Nat) (xs ys : Array Value) (b : Nat → Bool)
    (h : ∀ i, i < n → ∃ u v, pureRun P (part e xs (i * s)) = some u ∧ pureRun P (part e ys (i * s)) = some v ∧ pureRun P (Op.equalIn d e u v) = some (b i)) : pureRun P (Op.equalIn (d + 1) t (.agg xs) (.agg ys)) = some ((List.range n).all b) := by
  have hs := pr_sizeOf sz
  unfold Op.equalIn
  rw [pureRun_bind, pr_underlying un, Option.bind_some]
  simp only []
  rw [pureRun_bind, hs, Option.bind_some, pureRun_bind]
  simp only [Std.Legacy.Range.forIn_eq_forIn_range', Std.Legacy.Range.size, Nat.sub_zero, Nat.add_sub_cancel, Nat.div_one]
  rw [pr_forIn_all (none, PUnit.unit) (some false, PUnit.unit) b]
  · rw [← List.range_eq_range']
    cases hb : (List.range n).all b <;> simp [hb] <;> rfl
  · intro i hi
    obtain ⟨u, v, hu, hv, he⟩ := h i (by simp at hi; omega)
    rw [pureRun_bind, hu, Option.bind_some, pureRun_bind, hv, Option.bind_some, pureRun_bind, he, Option.bind_some]
    cases b i <;> rfl
theorem pr_isAgg {t : TypeId} {b : Bool} (h : aggB P t = some b) : pureRun P (isAgg t) = some b := by
  unfold aggB at h
  cases hu : P.underlying t with
  | none => simp [hu] at h
  | some d =>
    unfold isAgg
    rw [pureRun_bind, pr_underlying hu, Option.bind_some]
    cases d <;> simp [hu] at h <;> subst h <;> rfl
/-- A part that is a cell. -/
theorem part_cell {t : TypeId} (ag : aggB P t = some false) {cs : Array Value} {o : Nat} {v : Value} (h : cs[o]? = some v) : pureRun P (part t cs o) = some v := by
  unfold part
  rw [pureRun_bind, pr_isAgg ag, Option.bind_some]
  simp only [h, Bool.false_eq_true, if_false]
  rfl
theorem part_agg {t : TypeId} {n : Nat} (ag : aggB P t = some true) (sz : szOf P t = some n) {l : List Value} {o : Nat} : pureRun P (part t ⟨l⟩ o) = some (.agg ⟨(l.drop o).take n⟩) := by
  unfold part
  rw [pureRun_bind, pr_isAgg ag, Option.bind_some]
  simp only [if_true]
  rw [pureRun_bind, pr_sizeOf sz, Option.bind_some]
  have : (⟨l⟩ : Array Value).extract o (o + n) = ⟨(l.drop o).take n⟩ := Array.ext' (by simp)
  rw [this]; rfl
/-- Numbers as cells. -/
abbrev iv (ns : List Int) : List Value := ns.map (.int .i64)
theorem iv_get {ns : List Int} {i : Nat} {n : Int} (h : ns[i]? = some n) : (iv ns)[i]? = some (.int .i64 n) := by simp [iv, h]
theorem plainL_iv : ∀ ns : List Int, plainL (iv ns) = true
  | [] => rfl
  | _ :: ns => by simp only [iv, List.map_cons, plainL, plainV, Bool.true_and]; exact plainL_iv ns
theorem iv_one (ns : List Int) : (iv ns).all one = true := by rw [List.all_eq_true]; intro x hx; simp at hx; obtain ⟨k, _, rfl⟩ := hx; rfl
/-- An array of numbers. -/
theorem eq_ints {t e : TypeId} {n : Nat} (un : P.underlying t = some (.array n e)) (une : P.underlying e = some (.int .i64)) (sz : szOf P e = some 1) (age : aggB P e = some false) (d : Nat) {xs ys : List Int} (hx : xs.length = n) (hy : ys.length = n) :
    pureRun P (Op.equalIn (d + 2) t (.agg ⟨iv xs⟩) (.agg ⟨iv ys⟩)) = some (decide (xs = ys)) := by
  rw [eq_array (s := 1) un sz (d + 1) _ _ (fun i => decide (xs[i]? = ys[i]?)) fun i hi => ?_]
  · congr 1
    by_cases h : xs = ys
    · subst h; simp
    · have : ∃ i, i < n ∧ xs[i]? ≠ ys[i]? := by
        refine Classical.byContradiction fun hn => h (List.ext_getElem? fun i => ?_)
        by_cases hi : i < n
        · exact Classical.byContradiction fun hh => hn ⟨i, hi, hh⟩
        · rw [List.getElem?_eq_none (by omega), List.getElem?_eq_none (by omega)]
      obtain ⟨i, hi, hne⟩ := this
      simp only [h, decide_false]
      rw [List.all_eq_false]
      exact ⟨i, by simpa using hi, by simpa using hne⟩
  · have h1 : xs[i]? = some xs[i] := List.getElem?_eq_getElem (by omega)
    have h2 : ys[i]? = some ys[i] := List.getElem?_eq_getElem (by omega)
    refine ⟨.int .i64 xs[i], .int .i64 ys[i], part_cell age (by rw [Nat.mul_one]; simp), part_cell age (by rw [Nat.mul_one]; simp), ?_⟩
    rw [eq_int une, h1, h2]
    congr 1
    by_cases h : xs[i] = ys[i] <;> simp [h]
end
theorem row_in' {e n i : Nat} (hi : i < n) : i * e + e ≤ n * e := by
  have : (i + 1) * e ≤ n * e := Nat.mul_le_mul_right e hi
  rw [Nat.add_mul, Nat.one_mul] at this; exact this
/-! ### Keys of numbers -/
section
variable {P : Program}
/-- The fields of a struct of numbers lie one behind the other: how many cells. -/
def ktF (k : TypeId → Option Nat) : List Field → Nat → Option Nat
  | [], o => some o
  | f :: fs, o => match k f.type with
    | some n => (match Nat.beq f.offset o && (f.name != "_") with | true => ktF k fs (o + n) | false => none)
    | none => none
/-- Of how many numbers a type consists. -/
def ktL (P : Program) : Nat → TypeId → Option Nat
  | 0, _ => none
  | d + 1, t =>
    match P.underlying t with
    | some (.int .i64) => some 1
    | some (.struct fs) => (match P.stoodInHeld t with
      | false => (match ktF (ktL P d) fs.toList 0 with
        | some n => (match szOf P t with | some s => (match Nat.beq s n with | true => some n | false => none) | none => none)
        | none => none)
      | true => none)
    | some (.array n e) => (match ktL P d e, szOf P t, szOf P e with
      | some k, some s, some s' => (match Nat.beq s (n * k) && Nat.beq s' k with | true => some (n * k) | false => none)
      | _, _, _ => none)
    | _ => none
/-- A thing of numbers, as it is read. -/
def ktV (a : Bool) (xs : List Int) : Value := match a with | true => .agg ⟨iv xs⟩ | false => .int .i64 (xs.headD 0)
def subL (xs : List Int) (o n : Nat) : List Int := (xs.drop o).take n
theorem subL_len {xs : List Int} {o n : Nat} (h : o + n ≤ xs.length) : (subL xs o n).length = n := by simp [subL]; omega
theorem iv_sub (xs : List Int) (o n : Nat) : ((iv xs).drop o).take n = iv (subL xs o n) := by simp [iv, subL, List.map_take, List.map_drop]
structure KtOk (P : Program) (d : Nat) (t : TypeId) (n : Nat) : Prop where
  ag : ∃ a, aggB P t = some a ∧ (a = false → n = 1) ∧ (a = true → szOf P t = some n) ∧
    ∀ (e : Nat) (xs ys : List Int), xs.length = n → ys.length = n → pureRun P (Op.equalIn (d + e) t (ktV a xs) (ktV a ys)) = some (decide (xs = ys))
  ck : ∀ (b : Bool) (e : Nat) (xs : List Int), xs.length = n → ∀ a, aggB P t = some a → pureRun P (Instr.checkKey b (d + e) t (ktV a xs)) = some ()
theorem kt_part {t : TypeId} {d n : Nat} {a : Bool} (h : aggB P t = some a) (h1 : a = false → n = 1) (h2 : a = true → szOf P t = some n) {xs : List Int} {o : Nat} (ho : o + n ≤ xs.length) : pureRun P (part t ⟨iv xs⟩ o) = some (ktV a (subL xs o n)) := by
  cases a with
  | true =>
    rw [part_agg h (h2 rfl), iv_sub]; rfl
  | false =>
    have hn := h1 rfl
    subst hn
    have hx : xs[o]? = some xs[o] := List.getElem?_eq_getElem (by omega)
    rw [part_cell h (v := .int .i64 xs[o]) (by simp)]
    have hs : subL xs o 1 = [xs[o]] := by
      unfold subL
      rw [List.drop_eq_getElem_cons (by omega)]; rfl
    rw [hs]; rfl
theorem pr_forIn_unit {α β : Type} (i : β) {f : α → β → Sem (ForInStep β)} : ∀ (l : List α), (∀ a ∈ l, pureRun P (f a i) = some (.yield i)) → pureRun P (forIn l i f) = some i
  | [], _ => by rw [List.forIn_nil]; rfl
  | a :: l, h => by
    rw [List.forIn_cons, pureRun_bind, h a (by simp), Option.bind_some]
    exact pr_forIn_unit i l fun x hx => h x (by simp [hx])
/-- Two lists whose parts are alike. -/
theorem ktF_split {k : TypeId → Option Nat} : ∀ {fs : List Field} {o n : Nat}, ktF k fs o = some n → o ≤ n ∧ (∀ f ∈ fs, f.name ≠ "_" ∧ ∃ c, k f.type = some c ∧ o ≤ f.offset ∧ f.offset + c ≤ n) ∧
    ∀ xs ys : List Int, xs.length = n → ys.length = n → (∀ f ∈ fs, ∀ c, k f.type = some c → subL xs f.offset c = subL ys f.offset c) → xs.drop o = ys.drop o
  | [], o, n, h => by
    simp only [ktF] at h; cases h
    exact ⟨Nat.le_refl _, by simp, fun xs ys hx hy _ => by rw [List.drop_eq_nil_of_le (by omega), List.drop_eq_nil_of_le (by omega)]⟩
  | f :: fs, o, n, h => by
    simp only [ktF] at h
    split at h
    · rename_i c hc
      split at h
      · rename_i hb
        simp only [Bool.and_eq_true] at hb
        have ho := Nat.eq_of_beq_eq_true hb.1
        have hnm : f.name ≠ "_" := by simpa using hb.2
        obtain ⟨h1, h2, h3⟩ := ktF_split h
        refine ⟨by omega, fun g hg => ?_, fun xs ys hx hy hh => ?_⟩
        · rcases List.mem_cons.1 hg with rfl | hg
          · exact ⟨hnm, c, hc, by omega, by omega⟩
          · obtain ⟨q1, c', q2, q3, q4⟩ := h2 g hg
            exact ⟨q1, c', q2, by omega, q4⟩
        · have e1 := h3 xs ys hx hy fun g hg => hh g (by simp [hg])
          have e2 := hh f (by simp) c hc
          rw [ho] at e2
          have key : ∀ zs : List Int, zs.drop o = subL zs o c ++ zs.drop (o + c) := fun zs => by
            unfold subL
            rw [← List.drop_drop, List.take_append_drop]
          rw [key xs, key ys, e2, e1]
      · cases h
    · cases h
theorem ktL_ok : ∀ (d : Nat) {t : TypeId} {n : Nat}, ktL P d t = some n → KtOk P d t n
  | 0, _, _, h => by simp [ktL] at h
  | d + 1, t, n, h => by
    unfold ktL at h
    split at h
    · rename_i hu
      cases h
      have ha : aggB P t = some false := by simp [aggB, hu]
      refine ⟨⟨false, ha, fun _ => rfl, (fun h => by cases h), fun e xs ys hx hy => ?_⟩, fun b e xs hx a ha' => ?_⟩
      · match xs, hx, ys, hy with
        | [x], _, [y], _ =>
          rw [show d + 1 + e = (d + e) + 1 by omega]
          show pureRun P (Op.equalIn (d + e + 1) t (.int .i64 x) (.int .i64 y)) = _
          rw [eq_int hu]
          by_cases h : x = y <;> simp [h]
      · rw [ha] at ha'; cases ha'
        match xs, hx with
        | [x], _ =>
          rw [show d + 1 + e = (d + e) + 1 by omega]
          show pureRun P (Instr.checkKey b (d + e + 1) t (.int .i64 x)) = _
          unfold Instr.checkKey
          rw [pureRun_bind, pr_underlying hu, Option.bind_some]
          rfl
    · rename_i fs hu
      split at h
      · rename_i hst
        split at h
        · rename_i n' hf
          split at h
          · rename_i s hs
            split at h
            · rename_i hb
              cases h
              have hsn := Nat.eq_of_beq_eq_true hb
              subst hsn
              have ha : aggB P t = some true := by simp [aggB, hu]
              obtain ⟨_, h2, h3⟩ := ktF_split hf
              have fact : ∀ f ∈ fs.toList, ∃ c a, ktL P d f.type = some c ∧ f.offset + c ≤ s ∧ f.name ≠ "_" ∧ aggB P f.type = some a ∧ (a = false → c = 1) ∧ (a = true → szOf P f.type = some c) ∧ KtOk P d f.type c ∧
                  ∀ (e : Nat) (xs ys : List Int), xs.length = c → ys.length = c → pureRun P (Op.equalIn (d + e) f.type (ktV a xs) (ktV a ys)) = some (decide (xs = ys)) := fun f hf => by
                obtain ⟨q1, c, q2, q3, q4⟩ := h2 f hf
                have hk := ktL_ok d q2
                obtain ⟨a, r1, r2, r3, r4⟩ := hk.ag
                exact ⟨c, a, q2, q4, q1, r1, r2, r3, hk, r4⟩
              refine ⟨⟨true, ha, (fun h => by cases h), fun _ => hs, fun e xs ys hx hy => ?_⟩, fun b e xs hx a ha' => ?_⟩
              · rw [show d + 1 + e = (d + e) + 1 by omega]
                show pureRun P (Op.equalIn (d + e + 1) t (.agg ⟨iv xs⟩) (.agg ⟨iv ys⟩)) = _
                rw [eq_struct hu hst (d + e) _ _ (fun f => decide (subL xs f.offset ((ktL P d f.type).getD 0) = subL ys f.offset ((ktL P d f.type).getD 0))) (fun f hf => by
                  obtain ⟨_, _, _, _, q, _⟩ := fact f hf; simpa using q) fun f hf => ?_]
                · congr 1
                  by_cases h : xs = ys
                  · subst h; simp
                  · rw [decide_eq_false h, Bool.eq_false_iff]
                    intro hall
                    rw [List.all_eq_true] at hall
                    apply h
                    have := h3 xs ys hx hy fun f hf c hc => by
                      have := hall f hf
                      rw [hc] at this
                      simpa using this
                    simpa using this
                · obtain ⟨c, a, q1, q2, q3, q4, q5, q6, _, q7⟩ := fact f hf
                  refine ⟨_, _, kt_part (d := d) q4 q5 q6 (by omega), kt_part (d := d) q4 q5 q6 (by omega), ?_⟩
                  rw [q1]
                  exact q7 e _ _ (subL_len (by omega)) (subL_len (by omega))
              · rw [ha] at ha'; cases ha'
                rw [show d + 1 + e = (d + e) + 1 by omega]
                show pureRun P (Instr.checkKey b (d + e + 1) t (.agg ⟨iv xs⟩)) = _
                unfold Instr.checkKey
                rw [pureRun_bind, pr_underlying hu, Option.bind_some]
                simp only []
                rw [← Array.forIn_toList, pureRun_bind, pr_forIn_unit]
                · rfl
                intro f hf
                obtain ⟨c, a, q1, q2, q3, q4, q5, q6, q8, q7⟩ := fact f hf
                rw [if_pos q3, pureRun_bind, kt_part (d := d) q4 q5 q6 (by omega), Option.bind_some, pureRun_bind, q8.ck b e _ (subL_len (by omega)) a q4]
                rfl
            · cases h
          · cases h
        · cases h
      · cases h
    · rename_i nn el hu
      split at h
      · rename_i k s s' hk hs hsz
        split at h
        · rename_i hb
          simp only [Bool.and_eq_true] at hb
          cases h
          have hsn := Nat.eq_of_beq_eq_true hb.1
          have hsk := Nat.eq_of_beq_eq_true hb.2
          subst hsn hsk
          have ha : aggB P t = some true := by simp [aggB, hu]
          have hkk := ktL_ok d hk
          obtain ⟨a, r1, r2, r3, r4⟩ := hkk.ag
          have hin : ∀ i, i < nn → i * s' + s' ≤ nn * s' := fun i hi => row_in' hi
          refine ⟨⟨true, ha, (fun h => by cases h), fun _ => hs, fun e xs ys hx hy => ?_⟩, fun b e xs hx a' ha' => ?_⟩
          · rw [show d + 1 + e = (d + e) + 1 by omega]
            show pureRun P (Op.equalIn (d + e + 1) t (.agg ⟨iv xs⟩) (.agg ⟨iv ys⟩)) = _
            rw [eq_array hu hsz (d + e) _ _ (fun i => decide (subL xs (i * s') s' = subL ys (i * s') s')) fun i hi => ?_]
            · congr 1
              by_cases h : xs = ys
              · subst h; simp
              · rw [decide_eq_false h, Bool.eq_false_iff]
                intro hall
                rw [List.all_eq_true] at hall
                apply h
                apply List.ext_getElem?
                intro p
                by_cases hp : p < nn * s'
                · have hs0 : 0 < s' := by
                    cases s' with
                    | zero => simp at hp
                    | succ _ => omega
                  have hdm := Nat.div_add_mod p s'
                  have hml := Nat.mod_lt p hs0
                  have hi : p / s' < nn := Nat.div_lt_of_lt_mul (by rw [Nat.mul_comm]; exact hp)
                  have hh := hall (p / s') (by simpa using hi)
                  have hh : subL xs (p / s' * s') s' = subL ys (p / s' * s') s' := by simpa using hh
                  have hg : ∀ zs : List Int, zs[p]? = (subL zs (p / s' * s') s')[p % s']? := fun zs => by
                    unfold subL
                    rw [List.getElem?_take, if_pos hml, List.getElem?_drop]
                    congr 1
                    rw [Nat.mul_comm]; omega
                  rw [hg xs, hg ys, hh]
                · rw [List.getElem?_eq_none (by omega), List.getElem?_eq_none (by omega)]
            · have := hin i hi
              refine ⟨_, _, kt_part (d := d) r1 r2 r3 (by omega), kt_part (d := d) r1 r2 r3 (by omega), r4 e _ _ (subL_len (by omega)) (subL_len (by omega))⟩
          · rw [ha] at ha'; cases ha'
            rw [show d + 1 + e = (d + e) + 1 by omega]
            show pureRun P (Instr.checkKey b (d + e + 1) t (.agg ⟨iv xs⟩)) = _
            unfold Instr.checkKey
            rw [pureRun_bind, pr_underlying hu, Option.bind_some]
            simp only [Std.Legacy.Range.forIn_eq_forIn_range', Std.Legacy.Range.size, Nat.sub_zero, Nat.add_sub_cancel, Nat.div_one]
            rw [pureRun_bind, pr_forIn_unit]
            · rfl
            · intro i hi
              have := hin i (by simp at hi; omega)
              rw [pureRun_bind, pr_sizeOf hsz, Option.bind_some, pureRun_bind, kt_part (d := d) r1 r2 r3 (by omega), Option.bind_some, pureRun_bind, hkk.ck b e _ (subL_len (by omega)) a r1]
              rfl
        · cases h
      · cases h
    · cases h
end
end Go.Proofs.Ytjkfleibnojjaaa
end

section
open Go Go.Proofs Go.Proofs.Ytjkfleibnojjaaa
namespace Go.Proofs.Ytjkfleibnojjaaa
section
variable {P : Program}
/-! ### Maps, worked out quickly -/
def ieqK (a b : Int) : Bool := match a, b with | .ofNat m, .ofNat n => Nat.beq m n | .negSucc m, .negSucc n => Nat.beq m n | _, _ => false
theorem ieqK_eq (a b : Int) : ieqK a b = decide (a = b) := by
  cases a <;> cases b <;> simp only [ieqK] <;> apply Bool.eq_iff_iff.2 <;> simp [Nat.beq_eq] <;> omega
def allI : List Value → Bool
  | [] => true
  | .int .i64 _ :: l => allI l
  | _ => false
theorem allI_eq : ∀ {l : List Value}, allI l = true → ∃ xs, l = iv xs
  | [], _ => ⟨[], rfl⟩
  | v :: l, h => by
    unfold allI at h
    split at h
    · rename_i e; cases e
    · rename_i n l' e
      cases e
      obtain ⟨xs, rfl⟩ := allI_eq h
      exact ⟨n :: xs, rfl⟩
    · cases h
def eqI : List Value → List Value → Option Bool
  | [], [] => some true
  | .int .i64 a :: l, .int .i64 b :: k => match eqI l k with | some r => some (ieqK a b && r) | none => none
  | _, _ => none
theorem eqI_eq : ∀ {xs : List Int} {k : List Value} {b : Bool}, eqI (iv xs) k = some b → ∃ ys, k = iv ys ∧ ys.length = xs.length ∧ b = decide (xs = ys)
  | [], [], b, h => by simp only [iv, List.map_nil, eqI] at h; cases h; exact ⟨[], rfl, rfl, by simp⟩
  | [], _ :: _, b, h => by simp [iv, eqI] at h
  | x :: xs, [], b, h => by simp [iv, eqI] at h
  | x :: xs, v :: k, b, h => by
    simp only [iv, List.map_cons] at h
    unfold eqI at h
    split at h
    · rename_i e; cases e
    · rename_i a l b' k' e1 e2
      cases e1; cases e2
      split at h
      · rename_i r hr
        cases h
        obtain ⟨ys, rfl, h1, rfl⟩ := eqI_eq hr
        refine ⟨b' :: ys, rfl, by simp [h1], ?_⟩
        rw [ieqK_eq]
        by_cases e : x = b' <;> by_cases e2 : xs = ys <;> simp [e, e2]
      · cases h
    · cases h
def fastK (P : Program) (kt : TypeId) (l : List Value) : Bool :=
  match ktL P 8 kt with
  | some n => Nat.beq n l.length && (allI l && (match aggB P kt with | some true => true | _ => false))
  | none => false
def findF (l : List Value) : List (Value × Value) → Nat → Option (Option (Nat × Value))
  | [], _ => some none
  | (.agg ⟨l'⟩, v) :: es, i => match eqI l l' with
    | some true => some (some (i, v))
    | some false => findF l es (i + 1)
    | none => none
  | _, _ => none
theorem fastK_eq {kt : TypeId} {l : List Value} (h : fastK P kt l = true) : ∃ n xs, ktL P 8 kt = some n ∧ l = iv xs ∧ xs.length = n ∧ aggB P kt = some true := by
  unfold fastK at h
  split at h
  · rename_i n hn
    simp only [Bool.and_eq_true] at h
    obtain ⟨h1, h2, h3⟩ := h
    obtain ⟨xs, rfl⟩ := allI_eq h2
    refine ⟨n, xs, hn, rfl, by have := Nat.eq_of_beq_eq_true h1; simpa using this.symm, ?_⟩
    split at h3
    · assumption
    · cases h3
  · cases h
theorem kt_equal {kt : TypeId} {n : Nat} (h : ktL P 8 kt = some n) (ha : aggB P kt = some true) {xs ys : List Int} (hx : xs.length = n) (hy : ys.length = n) : pureRun P (Op.equal kt (.agg ⟨iv xs⟩) (.agg ⟨iv ys⟩)) = some (decide (xs = ys)) := by
  obtain ⟨a, r1, _, _, r4⟩ := (ktL_ok 8 h).ag
  rw [ha] at r1; cases r1
  exact r4 9992 xs ys hx hy
theorem kt_check {kt : TypeId} {n : Nat} (h : ktL P 8 kt = some n) (ha : aggB P kt = some true) (b : Bool) {xs : List Int} (hx : xs.length = n) : pureRun P (Instr.checkKey b 10000 kt (.agg ⟨iv xs⟩)) = some () :=
  (ktL_ok 8 h).ck b 9992 xs hx true ha
theorem keyOk_iv (xs : List Int) : keyOk (.agg ⟨iv xs⟩) = true := by
  simp only [keyOk, List.all_eq_true]
  intro v hv
  simp only [iv, List.mem_map] at hv
  obtain ⟨n, _, rfl⟩ := hv
  rfl
theorem kt_ckeyB {kt : TypeId} {n : Nat} (h : ktL P 8 kt = some n) (ha : aggB P kt = some true) (b : Bool) {xs : List Int} (hx : xs.length = n) : ckeyB P kt (.agg ⟨iv xs⟩) b = true := by
  simp only [ckeyB, keyOk_iv, kt_check h ha b hx, Option.isSome_some, Bool.and_self]
theorem findF_ok {kt : TypeId} {n : Nat} (h : ktL P 8 kt = some n) (ha : aggB P kt = some true) {xs : List Int} (hx : xs.length = n) : ∀ {es : List (Value × Value)} {i : Nat} {r : Option (Nat × Value)}, findF (iv xs) es i = some r → cfindA P kt (.agg ⟨iv xs⟩) es i = some r
  | [], i, r, hr => by simp only [findF] at hr; cases hr; rfl
  | (k, v) :: es, i, r, hr => by
    unfold findF at hr
    split at hr
    · rename_i e; cases e
    · rename_i l' v' es' i' e
      cases e
      split at hr
      · rename_i he
        cases hr
        obtain ⟨ys, rfl, hl, hb⟩ := eqI_eq he
        simp only [cfindA, kt_equal h ha hx (by omega : ys.length = n), ← hb]
      · rename_i he
        obtain ⟨ys, rfl, hl, hb⟩ := eqI_eq he
        simp only [cfindA, kt_equal h ha hx (by omega : ys.length = n), ← hb]
        exact findF_ok h ha hx hr
      · cases hr
    · cases hr
/-- A key of many cells is found by looking at all. -/
theorem cfind_agg {kt : TypeId} {kind : TypeDesc} (hu : P.underlying kt = some kind) {l : Array Value} : ∀ {es : List (Value × Value)}, cfind P kt (.agg l) es = cfindA P kt (.agg l) es 0
  | [] => by simp [cfind, hu, cfindN, cfindA]
  | (k, v) :: es => by
    have : Instr.sameNow kind (.agg l) k = none := by
      unfold Instr.sameNow
      split <;> simp_all
    simp [cfind, hu, cfindN, this]
def cfindF (P : Program) (kt : TypeId) (k : Value) (es : List (Value × Value)) : Option (Option (Nat × Value)) :=
  match k with
  | .agg ⟨l⟩ => (match fastK P kt l with | true => (match findF l es 0 with | some r => some r | none => cfind P kt k es) | false => cfind P kt k es)
  | _ => cfind P kt k es
theorem cfindF_eq (kt : TypeId) (k : Value) (es : List (Value × Value)) : cfindF P kt k es = cfind P kt k es := by
  unfold cfindF
  split
  · split
    · rename_i hf
      split
      · rename_i r hr
        obtain ⟨n, xs, h1, rfl, h2, h3⟩ := fastK_eq hf
        obtain ⟨kind, hu⟩ : ∃ kind, P.underlying kt = some kind := by
          unfold aggB at h3
          cases hk : P.underlying kt with
          | none => simp [hk] at h3
          | some k => exact ⟨k, rfl⟩
        rw [cfind_agg hu, findF_ok h1 h3 h2 hr]
      · rfl
    · rfl
  · rfl
def ckeyF (P : Program) (kt : TypeId) (k : Value) (emp : Bool) : Bool :=
  match k with
  | .agg ⟨l⟩ => (match fastK P kt l with | true => true | false => ckeyB P kt k emp)
  | _ => ckeyB P kt k emp
theorem ckeyF_eq (kt : TypeId) (k : Value) (emp : Bool) : ckeyF P kt k emp = ckeyB P kt k emp := by
  unfold ckeyF
  split
  · split
    · rename_i hf
      obtain ⟨n, xs, h1, rfl, h2, h3⟩ := fastK_eq hf
      rw [kt_ckeyB h1 h3 emp h2]
    · rfl
  · rfl
def clkF (P : Program) (t : TypeId) (x k : Value) (ok : Bool) (m : CM) : Option Value :=
  match P.underlying t with
  | some (.map kt et) =>
    (match centries x m with
    | some es =>
      (match ckeyF P kt k es.isEmpty with
      | true =>
        (match cfindF P kt k es with
        | some (some (_, v)) => some (match ok with | true => .tuple ⟨[v, .bool true]⟩ | false => v)
        | some none => (match zeroV P et with | some z => some (match ok with | true => .tuple ⟨[z, .bool false]⟩ | false => z) | none => none)
        | none => none)
      | false => none)
    | none => none)
  | _ => none
theorem clkF_eq (t : TypeId) (x k : Value) (ok : Bool) (m : CM) : clkF P t x k ok m = clk P t x k ok m := by
  unfold clkF clk
  simp only [ckeyF_eq, cfindF_eq] <;> rfl
def cmapUF (P : Program) (t : TypeId) (x k v : Value) (m : CM) : Option CM :=
  match P.underlying t, x with
  | some (.map kt _), .map (some b) =>
    (match m.get b with
    | some (.map es) =>
      (match ckeyF P kt k false with
      | true =>
        (match cfindF P kt k es with
        | some (some (i, _)) =>
          (match es[i]? with
          | some e => (match Instr.sameBits 10000 e.1 k with | true => some (m.put b (.map (es.set i (k, v)))) | false => none)
          | none => none)
        | some none => some (m.put b (.map (es ++ [(k, v)])))
        | none => none)
      | false => none)
    | _ => none)
  | _, _ => none
theorem cmapUF_eq (t : TypeId) (x k v : Value) (m : CM) : cmapUF P t x k v m = cmapU P t x k v m := by
  unfold cmapUF cmapU
  simp only [ckeyF_eq, cfindF_eq] <;> rfl
end
end Go.Proofs.Ytjkfleibnojjaaa
end

section
namespace Go.Proofs.Ytjkfleibnojjaaa
open Go

/-! ### What the walk reads -/
structure pop (x : Option Value) (m : CM) (K : Value → CM → Prop) : Prop where
  h : ∃ v, x = some v ∧ K v m
structure vop (x : Option (Value × CM)) (K : Value → CM → Prop) : Prop where
  h : ∃ v m', x = some (v, m') ∧ K v m'
structure sop (x : Option CM) (K : Value → CM → Prop) : Prop where
  h : ∃ m', x = some m' ∧ K undef m'
structure callw (P : Program) (f : FuncId) (args : List Value) (m : CM) (K : Value → CM → Prop) (Kp : List PanicEntry → CM → Prop) : Prop where
  h : ∃ e m', CEvCall P f args m e m' ∧ (match e with | .ret v => K v m' | .pan ch => Kp ch m')

/-- The meaning of a call of the loop's own function. -/
def CEvY (P : Program) (l : Nat) (args : List Value) (m : CM) (v : Value) (m' : CM) : Prop :=
  ∀ ι w args' p, Rel ι m w → ι l = some p → trL ι args = some args' → ∃ fn tmps assign body, (Instr.yield p.blk ⟨args'⟩).run P w = .ok (.round p.blk fn tmps assign body) w ∧
    RoundIn Fence.wide 0 P p.blk fn tmps assign body w (Ended ι m w (.ret v) m')
def yieldw (P : Program) (l : Nat) (args : List Value) (m : CM) (K : Value → CM → Prop) : Prop := ∃ v m', CEvY P l args m v m' ∧ K v m'

structure panw (x : Value) (m : CM) (Kp : List PanicEntry → CM → Prop) : Prop where
  h : ∃ t v, x = .iface t v ∧ Kp [{ v := x, recovered := false }] m

/-- A call of a method through an interface: which function, with which receiver. -/
def CMeth (P : Program) (t : TypeId) (v : Value) (name : String) (f : FuncId) (rv : Value) : Prop :=
  ∀ ι v', tr ι v = some v' → ∃ rv', tr ι rv = some rv' ∧ ∀ w : World, (method (P.types.size + Made.depth) t v' name).run P w = .ok (f, rv') w
/-- A method of a pointer type, declared with a pointer for its receiver: which function. -/
def methD (P : Program) (t : TypeId) (name : String) : Option FuncId :=
  match P.info? t, P.underlying t with
  | some i, some (.pointer _) => (match i.methods.find? (·.name == name) with
    | some mm => (match mm.path.toList, mm.func with
      | [], some (f, true) => some f
      | _, _ => none)
    | none => none)
  | _, _ => none
theorem cmeth_ptr {P : Program} {t : TypeId} {name : String} {f : FuncId} (h : methD P t name = some f) (v : Value) : CMeth P t v name f v := by
  unfold methD at h
  split at h
  · rename_i i e hi hu
    split at h
    · rename_i mm hm
      split at h
      · rename_i g hp hf
        cases h
        intro ι v' hv
        refine ⟨v', hv, fun w => ?_⟩
        have hd : P.types.size + Made.depth = (P.types.size + 99) + 1 := rfl
        rw [hd, method]
        simp only [Sem.run_bind, typeInfo, run_program, Result.andThen_ok, hi, Sem.run_pure, hm, hp, follow, hf, receiverAt, underlying, hu, Place.get]
      · cases h
    · cases h
  · cases h
theorem methw_ptr {P : Program} {t : TypeId} {v : Value} {name : String} {f : FuncId} {args : List Value} {m : CM} {K : Value → CM → Prop} {Kp : List PanicEntry → CM → Prop} (h : methD P t name = some f) (hc : callw P f (v :: args) m K Kp) :
    ∃ t' v' f' rv, Value.iface t v = .iface t' v' ∧ CMeth P t' v' name f' rv ∧ callw P f' (rv :: args) m K Kp := ⟨t, v, f, v, rfl, cmeth_ptr h v, hc⟩
def methw (P : Program) (x : Value) (name : String) (args : List Value) (m : CM) (K : Value → CM → Prop) (Kp : List PanicEntry → CM → Prop) : Prop :=
  ∃ t v f rv, x = .iface t v ∧ CMeth P t v name f rv ∧ callw P f (rv :: args) m K Kp

/-- A method value of an interface: the method stands behind a pointer, and nothing nil lies ahead of it. -/
def cnilm (P : Program) (x : Value) : Option Value := match x with
  | .func (.method f) ⟨[.iface t v]⟩ d => match methD P t f with
    | some _ => some (.func (.method f) ⟨[.iface t v]⟩ d)
    | none => none
  | x => cnilc x
theorem nilAhead_ptr {P : Program} {t : TypeId} {name : String} {f : FuncId} (h : methD P t name = some f) (v : Value) (w : World) : (nilAhead (P.types.size + Made.depth) t v name).run P w = .ok (some false) w := by
  unfold methD at h
  split at h
  · rename_i i e hi hu
    split at h
    · rename_i mm hm
      split at h
      · rename_i g hp hf
        have hd : P.types.size + Made.depth = (P.types.size + 99) + 1 := rfl
        rw [hd, nilAhead]
        simp only [Sem.run_bind, typeInfo, run_program, Result.andThen_ok, hi, Sem.run_pure, hm, hp, followBlind, hf]
      · cases h
    · cases h
  · cases h
theorem op_nilm {P : Program} {r : Option Nat} {o : Oper} {a : CA} {m : CM} {x : Operand} {v : Value} (ho : o.op = .nilCheck x) (hx : opdOk x = true) (h : cnilm P (a.ev x) = some v) : OpVal P r o a m v m := by
  unfold cnilm at h
  split at h
  · rename_i f t u d hp
    split at h
    · rename_i g hm
      cases h
      refine opVal_of_pure (by simp [ho]) fun ι w aw hr ha => ?_
      have h0 := ha.ev hx
      rw [hp] at h0
      refine ⟨aw.eval x, ?_, h0⟩
      obtain ⟨d⟩ := d
      simp only [tr, trL, trFn] at h0
      cases h1 : tr ι u with
      | none => simp [h1] at h0
      | some q =>
        cases h2 : trL ι d with
        | none => simp [h1, h2] at h0
        | some q2 =>
          simp [h1, h2] at h0
          have hn := nilAhead_ptr hm q w
          simp [execOp, ho, ← h0, hn]
    · cases h
  · exact op_nilc ho hx h

def callv (P : Program) (fv : Value) (args : List Value) (m : CM) (K : Value → CM → Prop) (Kp : List PanicEntry → CM → Prop) : Prop :=
  match fv with
  | .func (.func g) ⟨f⟩ ⟨c⟩ => callw P g (f ++ args ++ c) m K Kp
  | .func (.yield l) ⟨[]⟩ ⟨[]⟩ => yieldw P l args m K
  | .func (.method name) ⟨[x]⟩ ⟨[]⟩ => methw P x name args m K Kp
  | _ => False

def bltw (P : Program) (b : Builtin) (ts : List TypeId) (args : List Value) (m : CM) (K : Value → CM → Prop) (Kp : List PanicEntry → CM → Prop) : Prop :=
  match b, ts, args with
  | .len, t :: _, [x] => pop (clen P t x m) m K
  | .append, ts, [x, y] => vop (cappend P ts x y m) K
  | .copy, ts, [x, y] => vop (ccopy P ts x y m) K
  | .min, _, args => pop (cmm P .min args) m K
  | .max, _, args => pop (cmm P .max args) m K
  | .panic, _, [x] => panw x m Kp
  | _, _, _ => False

structure alw (P : Program) (t : TypeId) (m : CM) (K : Value → CM → Prop) : Prop where
  h : ∃ l, zeroL P t = some l ∧ K (.pointer (some ⟨m.next, 0, none⟩)) (m.alloc (.cells l 0 true))
structure mapw (m : CM) (K : Value → CM → Prop) : Prop where
  h : K (.map (some m.next)) (m.alloc (.map []))
structure boxw (v : Value) (m : CM) (K : Value → CM → Prop) : Prop where
  h : K (.pointer (some ⟨m.next, 0, none⟩)) (m.alloc (.cells (toL v) 0 true))

def opw (P : Program) (o : Op) (a : CA) (m : CM) (K : Value → CM → Prop) (Kp : List PanicEntry → CM → Prop) : Prop :=
  match o with
  | .move x | .assign x => K (a.ev x) m
  | .pick c x y => pop (cpick (a.ev c) (a.ev x) (a.ev y)) m K
  | .alloc t => alw P t m K
  | .box _ x => boxw (a.ev x) m K
  | .build t ps => pop (cbuild P t (ps.toList.map fun p => (p.1, a.ev p.2))) m K
  | .buildSlice t n ps => vop (cbuildS P t n (ps.toList.map fun p => (p.1, a.ev p.2)) m) K
  | .load t x => pop (cload P t (a.ev x) m) m K
  | .store t x y => sop (cstore P t (a.ev x) (a.ev y) m) K
  | .nilCheck x => pop (cnilm P (a.ev x)) m K
  | .binOp op t x y _ => pop (cbin P op t x y (a.ev x) (a.ev y)) m K
  | .unOp op _ x => pop (cun P op (a.ev x)) m K
  | .convert s d x => pop (cconv P s d (a.ev x)) m K
  | .makeInterface t x => pop (cmkI P t (a.ev x)) m K
  | .makeFunc fn f c => K (.func fn ⟨f.toList.map a.ev⟩ ⟨c.toList.map a.ev⟩) m
  | .makeSlice t l c => vop (cmakeS P t (a.ev l) (a.ev c) m) K
  | .slice t x lo hi mx => pop (cslice P t (a.ev x) (lo.map a.ev) (hi.map a.ev) (mx.map a.ev) m) m K
  | .fieldAddr s x f => pop (cfa P s f (a.ev x)) m K
  | .field t x f => pop (cfield P t (a.ev x) f) m K
  | .indexAddr t x i => pop (cia P t (a.ev x) (a.ev i)) m K
  | .index t x i => pop (cindex P t (a.ev x) (a.ev i)) m K
  | .extract x i => pop (cext (a.ev x) i) m K
  | .typeAssert x _ t ok => pop (cassert P (a.ev x) t ok) m K
  | .range t x => vop (crange P t (a.ev x) m) K
  | .next x isS => vop (cnext (a.ev x) isS m) K
  | .makeMap _ none => mapw m K
  | .lookup t x k ok => pop (clk P t (a.ev x) (a.ev k) ok m) m K
  | .mapUpdate t x k v => sop (cmapU P t (a.ev x) (a.ev k) (a.ev v) m) K
  | .panic x => panw (a.ev x) m Kp
  | .call { callee := .builtin b, args, argTypes } => bltw P b argTypes.toList (args.toList.map a.ev) m K Kp
  | .call { callee := .value f, args, .. } => callv P (a.ev f) (args.toList.map a.ev) m K Kp
  | .call { callee := .invoke x name, args, .. } => methw P (a.ev x) name (args.toList.map a.ev) m K Kp
  | _ => False

/-- Is an operation such that its plain meaning may be read off? (No variable of the package level, no address among its constants.) -/
def opOk (o : Op) : Bool :=
  (match o with
   | .makeFunc fn f c => fnOk fn && f.toList.all opdOk && c.toList.all opdOk
   | .build _ ps | .buildSlice _ _ ps => ptsOk ps.toList
   | .slice _ x lo hi mx => opdOk x && bndOk lo && bndOk hi && bndOk mx
   | .call c => (match c.callee with | .value f => opdOk f | .invoke x _ => opdOk x | .builtin _ => true) && c.args.toList.all opdOk
   | .defer _ => false
   | o => o.operands.toList.all opdOk)

section
variable {P : Program} {r : Option Nat} {o : Oper} {a : CA} {m : CM}

theorem CallsIn.toFR {ι : Inj} {F : Fence} (hF : FR ι r F) {f : FuncId} {args : Array Value} {w : World} {R : Ending → World → Prop} (h : CallsIn Fence.wide 0 P f args w R) : CallsIn F (0 - 1) P f args w R := by
  cases r with
  | none => cases hF; exact h
  | some l => obtain ⟨p, hp, rfl⟩ := hF; exact h
theorem RoundIn.toFR {ι : Inj} {F : Fence} (hF : FR ι r F) {l : Nat} {f : FuncId} {tmps : Array Value} {as bd : Code} {w : World} {R : Ending → World → Prop} (h : RoundIn Fence.wide 0 P l f tmps as bd w R) : RoundIn F (0 - 1) P l f tmps as bd w R := by
  cases r with
  | none => cases hF; exact h
  | some l => obtain ⟨p, hp, rfl⟩ := hF; exact h

def OpRes (P : Program) (r : Option Nat) (o : Oper) (a : CA) (m : CM) (e : CE) (m' : CM) : Prop :=
  match e with
  | .ret v => OpVal P r o a m v m'
  | .pan ch => OpPan P r o a m ch m'

/-- An operation that enters a function. -/
theorem op_enter {f : FuncId} {args : List Value} {e : CE} {m' : CM} (hd : ∀ c, o.op ≠ .defer c) (hc : CEvCall P f args m e m')
    (h : ∀ ι w aw, Rel ι m w → RelA ι a aw → ∃ args', (execOp aw.eval o).run P w = .ok (.enter f ⟨args'⟩) w ∧ trL ι args = some args') :
    OpRes P r o a m e m' := by
  have key : ∀ ι w aw F, Rel ι m w → RelA ι a aw → FR ι r F → ∀ (next : Act → World → Prop) (Q : Exit → Act → World → Prop),
      (∀ ι' w' e', ι.le ι' → Rel ι' m' w' → ERel ι' e e' → Fr ι m w ι' m' w' → (match e' with | .returned v => next (aw.put o.dst v) w' | .panicked c => Q (.panic c) aw w' | .outgrown => LetsOut Q)) → o.wpIn F 0 P aw w next Q := by
    intro ι w aw F hr ha hF next Q hn
    obtain ⟨args', hrun, ht⟩ := h ι w aw hr ha
    refine ⟨fun f _ => hF.fn f, ?_⟩
    rw [Oper.semAt_eq _ _ _ hd, hrun]
    refine ⟨fun hh => by rw [hF.depth] at hh; simp at hh, (CallsIn.toFR hF (hc.2 ι w args' hr ht)).mono ?_⟩
    rintro e' w' ⟨ι', hle, hr', he, hf⟩
    have hh := hn ι' w' e' hle hr' he hf
    cases e' <;> exact hh
  cases e with
  | ret v =>
    intro ι w aw F hr ha hF next Q hn
    refine key ι w aw F hr ha hF next Q ?_
    intro ι' w' e' hle hr' he hf
    cases e' <;> simp only [ERel] at he
    exact hn ι' w' _ hle hr' he hf
  | pan ch =>
    intro ι w aw F hr ha hF next Q hn
    refine key ι w aw F hr ha hF next Q ?_
    intro ι' w' e' hle hr' he hf
    cases e' <;> simp only [ERel] at he
    exact hn ι' w' _ hle hr' he hf

theorem map_eval (aw : Act) (xs : Array Operand) : xs.map aw.eval = ⟨xs.toList.map aw.eval⟩ := Array.ext' (by simp)

theorem op_callf {f : Operand} {xs : Array Operand} {ts : Array TypeId} {g : FuncId} {fs cs : List Value} {e : CE} {m' : CM} (ho : o.op = .call { callee := .value f, args := xs, argTypes := ts }) (hf : opdOk f = true) (hx : xs.toList.all opdOk = true)
    (hv : a.ev f = .func (.func g) ⟨fs⟩ ⟨cs⟩) (hc : CEvCall P g (fs ++ xs.toList.map a.ev ++ cs) m e m') :
    OpRes P r o a m e m' := by
  refine op_enter (o := o) (f := g) (args := fs ++ xs.toList.map a.ev ++ cs) (by simp [ho]) hc ?_
  intro ι w aw hr ha
  have h0 := ha.ev hf
  rw [hv] at h0
  simp only [tr, trFn] at h0
  cases h1 : trL ι fs with
  | none => simp [h1] at h0
  | some fs' =>
    cases h2 : trL ι cs with
    | none => simp [h1, h2] at h0
    | some cs' =>
      simp [h1, h2] at h0
      refine ⟨fs' ++ xs.toList.map aw.eval ++ cs', ?_, trL_append (trL_append h1 (trL_map ha _ hx)) h2⟩
      simp only [execOp, ho, resolve, ← h0, Deferred.ofValue, invoke, Sem.run_bind, Sem.run_pure, Result.andThen_ok]
      have e : (⟨fs'⟩ : Array Value) ++ xs.map aw.eval ++ ⟨cs'⟩ = ⟨fs' ++ xs.toList.map aw.eval ++ cs'⟩ := Array.ext' (by simp)
      rw [e]
      exact run_callFunc hc.1 _ _

theorem op_yield {f : Operand} {xs : Array Operand} {ts : Array TypeId} {l : Nat} {v : Value} {m' : CM} (ho : o.op = .call { callee := .value f, args := xs, argTypes := ts }) (hf : opdOk f = true) (hx : xs.toList.all opdOk = true)
    (hv : a.ev f = .func (.yield l) ⟨[]⟩ ⟨[]⟩) (hc : CEvY P l (xs.toList.map a.ev) m v m') : OpVal P r o a m v m' := by
  intro ι w aw F hr ha hF next Q hn
  have h0 := ha.ev hf
  rw [hv] at h0
  simp only [tr, trFn] at h0
  cases hp : ι l with
  | none => simp [hp] at h0
  | some p =>
    simp [hp, trL] at h0
    obtain ⟨fn, tmps, assign, body, hy, hround⟩ := hc ι w _ p hr hp (trL_map ha _ hx)
    refine ⟨fun f _ => hF.fn f, ?_⟩
    rw [Oper.semAt_eq _ _ _ (by simp [ho])]
    have hrun : (execOp aw.eval o).run P w = .ok (.round p.blk fn tmps assign body) w := by
      simp only [execOp, ho, resolve, ← h0, Deferred.ofValue, invoke, Sem.run_bind, Sem.run_pure, Result.andThen_ok]
      have e : (#[] : Array Value) ++ xs.map aw.eval = ⟨xs.toList.map aw.eval⟩ := Array.ext' (by simp)
      rw [e]; exact hy
    rw [hrun]
    refine ⟨fun hh => by rw [hF.depth] at hh; simp at hh, (RoundIn.toFR hF hround).mono ?_⟩
    rintro e' w' ⟨ι', hle, hr', he, hf'⟩
    cases e' <;> simp only [ERel] at he
    exact hn ι' w' _ hle hr' he hf'

theorem tr_iface {ι : Inj} {t : TypeId} {y v : Value} (h : tr ι (.iface t y) = some v) : ∃ y', v = .iface t y' ∧ tr ι y = some y' := by
  simp only [tr] at h
  cases h1 : tr ι y with
  | none => simp [h1] at h
  | some y' => simp [h1] at h; exact ⟨y', h.symm, rfl⟩

theorem op_inv {x : Operand} {name : String} {xs : Array Operand} {ts : Array TypeId} {t : TypeId} {y rv : Value} {g : FuncId} {e : CE} {m' : CM} (ho : o.op = .call { callee := .invoke x name, args := xs, argTypes := ts }) (hx0 : opdOk x = true) (hx : xs.toList.all opdOk = true)
    (hv : a.ev x = .iface t y) (hm : CMeth P t y name g rv) (hc : CEvCall P g (rv :: xs.toList.map a.ev) m e m') :
    OpRes P r o a m e m' := by
  refine op_enter (o := o) (f := g) (args := rv :: xs.toList.map a.ev) (by simp [ho]) hc ?_
  intro ι w aw hr ha
  have h0 := ha.ev hx0
  rw [hv] at h0
  obtain ⟨y', e0, h1⟩ := tr_iface h0
  obtain ⟨rv', h2, hmm⟩ := hm ι y' h1
  refine ⟨rv' :: xs.toList.map aw.eval, ?_, by simp [trL, h2, trL_map ha _ hx]⟩
  have e1 : (#[aw.eval x] ++ xs.map aw.eval)[0]? = some (aw.eval x) := by rw [Array.getElem?_append_left (by simp)]; rfl
  have e2 : (#[aw.eval x] ++ xs.map aw.eval).extract 1 (#[aw.eval x] ++ xs.map aw.eval).size = xs.map aw.eval := by
    apply Array.ext'; simp [List.take_of_length_le]
  have e3 : #[rv'] ++ xs.map aw.eval = ⟨rv' :: xs.toList.map aw.eval⟩ := Array.ext' (by simp)
  simp only [execOp, ho, resolve, invoke, Sem.run_bind, Sem.run_pure, Result.andThen_ok, e1, e2]
  rw [e0]
  simp only [callMethod, Sem.run_bind, run_program, Result.andThen_ok, hmm, e3]
  exact run_callFunc hc.1 _ _
theorem op_methv {f : Operand} {name : String} {xs : Array Operand} {ts : Array TypeId} {t : TypeId} {y rv : Value} {g : FuncId} {e : CE} {m' : CM} (ho : o.op = .call { callee := .value f, args := xs, argTypes := ts }) (hf : opdOk f = true) (hx : xs.toList.all opdOk = true)
    (hv : a.ev f = .func (.method name) ⟨[.iface t y]⟩ ⟨[]⟩) (hm : CMeth P t y name g rv) (hc : CEvCall P g (rv :: xs.toList.map a.ev) m e m') :
    OpRes P r o a m e m' := by
  refine op_enter (o := o) (f := g) (args := rv :: xs.toList.map a.ev) (by simp [ho]) hc ?_
  intro ι w aw hr ha
  have h0 := ha.ev hf
  rw [hv] at h0
  simp only [tr, trFn, trL] at h0
  cases h1 : tr ι y with
  | none => simp [h1] at h0
  | some y' =>
    simp [h1] at h0
    obtain ⟨rv', h2, hmm⟩ := hm ι y' h1
    refine ⟨rv' :: xs.toList.map aw.eval, ?_, by simp [trL, h2, trL_map ha _ hx]⟩
    have e1 : (#[Value.iface t y'] ++ xs.map aw.eval)[0]? = some (Value.iface t y') := by rw [Array.getElem?_append_left (by simp)]; rfl
    have e2 : (#[Value.iface t y'] ++ xs.map aw.eval).extract 1 (#[Value.iface t y'] ++ xs.map aw.eval).size = xs.map aw.eval := by
      apply Array.ext'; simp [List.take_of_length_le]
    have e3 : #[rv'] ++ xs.map aw.eval = ⟨rv' :: xs.toList.map aw.eval⟩ := Array.ext' (by simp)
    simp only [execOp, ho, resolve, ← h0, Deferred.ofValue, invoke, Sem.run_bind, Sem.run_pure, Result.andThen_ok, e1, e2]
    simp only [callMethod, Sem.run_bind, run_program, Result.andThen_ok, hmm, e3]
    exact run_callFunc hc.1 _ _

theorem op_panic {t : TypeId} {y : Value} (hd : ∀ c, o.op ≠ .defer c) (x : Operand) (hx : opdOk x = true) (hv : a.ev x = .iface t y)
    (h : ∀ (aw : Act) (w : World) (y' : Value), aw.eval x = .iface t y' → (execOp aw.eval o).run P w = .halt (.panic (.iface t y')) w) : OpPan P r o a m [{ v := .iface t y, recovered := false }] m := by
  intro ι w aw F hr ha hF next Q hn
  have h0 := ha.ev hx
  rw [hv] at h0
  obtain ⟨y', e0, h1⟩ := tr_iface h0
  refine ⟨fun f _ => hF.fn f, ?_⟩
  rw [Oper.semAt_eq _ _ _ hd, h aw w y' e0]
  exact hn ι w _ (.refl ι) hr (by simp [trPs, trP, tr, h1]) (.refl ..)

theorem opw_sound {K : Value → CM → Prop} {Kp : List PanicEntry → CM → Prop} (hok : opOk o.op = true) (h : opw P o.op a m K Kp) :
    (∃ v m', OpVal P r o a m v m' ∧ K v m') ∨ (∃ ch m', OpPan P r o a m ch m' ∧ Kp ch m') := by
  have vf : ∀ {e : CE} {m' : CM}, OpRes P r o a m e m' → (match e with | .ret v => K v m' | .pan ch => Kp ch m') →
      (∃ v m', OpVal P r o a m v m' ∧ K v m') ∨ (∃ ch m', OpPan P r o a m ch m' ∧ Kp ch m') := by
    intro e m' h1 h2
    cases e with
    | ret v => exact .inl ⟨v, m', h1, h2⟩
    | pan ch => exact .inr ⟨ch, m', h1, h2⟩
  generalize ho : o.op = op at hok h
  cases op with
  | move x => simp [opOk, Op.operands] at hok; exact .inl ⟨_, _, op_move ho hok, h⟩
  | assign x => simp [opOk, Op.operands] at hok; exact .inl ⟨_, _, op_assign ho hok, h⟩
  | pick c x y => simp [opOk, Op.operands] at hok; obtain ⟨v, hv, hk⟩ := h; exact .inl ⟨_, _, op_pick ho hok.1 hok.2.1 hok.2.2 hv, hk⟩
  | alloc t => obtain ⟨l, hl, hk⟩ := h; exact .inl ⟨_, _, op_alloc ho hl, hk⟩
  | box t x => simp [opOk, Op.operands] at hok; exact .inl ⟨_, _, op_box ho hok, h.h⟩
  | build t ps => simp only [opOk] at hok; obtain ⟨v, hv, hk⟩ := h; exact .inl ⟨_, _, op_build ho hok hv, hk⟩
  | buildSlice t n ps => simp only [opOk] at hok; obtain ⟨v, m', hv, hk⟩ := h; exact .inl ⟨_, _, op_buildS ho hok hv, hk⟩
  | load t x => simp [opOk, Op.operands] at hok; obtain ⟨v, hv, hk⟩ := h; exact .inl ⟨_, _, op_load ho hok hv, hk⟩
  | store t x y => simp [opOk, Op.operands] at hok; obtain ⟨m', hv, hk⟩ := h; exact .inl ⟨_, _, op_store ho hok.1 hok.2 hv, hk⟩
  | nilCheck x => simp [opOk, Op.operands] at hok; obtain ⟨v, hv, hk⟩ := h; exact .inl ⟨_, _, op_nilm ho hok hv, hk⟩
  | binOp op t x y ty => simp [opOk, Op.operands] at hok; obtain ⟨v, hv, hk⟩ := h; exact .inl ⟨_, _, op_bin ho hok.1 hok.2 hv, hk⟩
  | unOp op t x => simp [opOk, Op.operands] at hok; obtain ⟨v, hv, hk⟩ := h; exact .inl ⟨_, _, op_un ho hok hv, hk⟩
  | convert s d x => simp [opOk, Op.operands] at hok; obtain ⟨v, hv, hk⟩ := h; exact .inl ⟨_, _, op_conv ho hok hv, hk⟩
  | makeInterface t x => simp [opOk, Op.operands] at hok; obtain ⟨v, hv, hk⟩ := h; exact .inl ⟨_, _, op_mkI ho hok hv, hk⟩
  | makeFunc fn f c => simp only [opOk, Bool.and_eq_true] at hok; exact .inl ⟨_, _, op_mkF ho hok.1.1 hok.1.2 hok.2, h⟩
  | makeSlice t l c => simp [opOk, Op.operands] at hok; obtain ⟨v, m', hv, hk⟩ := h; exact .inl ⟨_, _, op_makeS ho hok.1 hok.2 hv, hk⟩
  | slice t x lo hi mx => simp only [opOk, Bool.and_eq_true] at hok; obtain ⟨v, hv, hk⟩ := h; exact .inl ⟨_, _, op_slice ho hok.1.1.1 hok.1.1.2 hok.1.2 hok.2 hv, hk⟩
  | fieldAddr s x f => simp [opOk, Op.operands] at hok; obtain ⟨v, hv, hk⟩ := h; exact .inl ⟨_, _, op_fa ho hok hv, hk⟩
  | field t x f => simp [opOk, Op.operands] at hok; obtain ⟨v, hv, hk⟩ := h; exact .inl ⟨_, _, op_field ho hok hv, hk⟩
  | indexAddr t x i => simp [opOk, Op.operands] at hok; obtain ⟨v, hv, hk⟩ := h; exact .inl ⟨_, _, op_ia ho hok.1 hok.2 hv, hk⟩
  | index t x i => simp [opOk, Op.operands] at hok; obtain ⟨v, hv, hk⟩ := h; exact .inl ⟨_, _, op_index ho hok.1 hok.2 hv, hk⟩
  | extract x i => simp [opOk, Op.operands] at hok; obtain ⟨v, hv, hk⟩ := h; exact .inl ⟨_, _, op_ext ho hok hv, hk⟩
  | typeAssert x xt t ok => simp [opOk, Op.operands] at hok; obtain ⟨v, hv, hk⟩ := h; exact .inl ⟨_, _, op_assert ho hok hv, hk⟩
  | range t x => simp [opOk, Op.operands] at hok; obtain ⟨v, m', hv, hk⟩ := h; exact .inl ⟨_, _, op_range ho hok hv, hk⟩
  | next x isS => simp [opOk, Op.operands] at hok; obtain ⟨v, m', hv, hk⟩ := h; exact .inl ⟨_, _, op_next ho hok hv, hk⟩
  | makeMap t r =>
    cases r with
    | none => exact .inl ⟨_, _, op_makeM ho, h.h⟩
    | some _ => exact h.elim
  | lookup t x k ok => simp [opOk, Op.operands] at hok; obtain ⟨v, hv, hk⟩ := h; exact .inl ⟨_, _, op_lookup ho hok.1 hok.2 hv, hk⟩
  | mapUpdate t x k v => simp [opOk, Op.operands] at hok; obtain ⟨m', hv, hk⟩ := h; exact .inl ⟨_, _, op_mapU ho hok.1 hok.2.1 hok.2.2 hv, hk⟩
  | panic x =>
    simp [opOk, Op.operands] at hok; obtain ⟨t, v, hv, hk⟩ := h
    rw [hv] at hk
    exact .inr ⟨_, _, op_panic (by simp [ho]) x hok hv (fun aw w y' e => by simp [execOp, ho, e, Instr.panic]), hk⟩
  | call c =>
    obtain ⟨callee, xs, ts⟩ := c
    simp only [opOk, Bool.and_eq_true] at hok
    cases callee with
    | value f =>
      simp only [opw, callv] at h
      split at h
      · rename_i g fs cs hv
        obtain ⟨e, m', hc, hk⟩ := h
        exact vf (op_callf ho hok.1 hok.2 hv hc) hk
      · rename_i l hv
        obtain ⟨v, m', hc, hk⟩ := h
        exact .inl ⟨v, m', op_yield ho hok.1 hok.2 hv hc, hk⟩
      · rename_i name x hv
        obtain ⟨t, y, g, rv, rfl, hm, e, m', hc, hk⟩ := h
        exact vf (op_methv ho hok.1 hok.2 hv hm hc) hk
      · exact h.elim
    | invoke x name =>
      obtain ⟨t, y, g, rv, hv, hm, e, m', hc, hk⟩ := h
      exact vf (op_inv ho hok.1 hok.2 hv hm hc) hk
    | builtin b =>
      simp only [opw, bltw] at h
      have harr : ∀ {l : List Operand}, xs.toList = l → xs = ⟨l⟩ := fun h => Array.ext' (by simpa using h)
      have hone : ∀ {u : Value}, xs.toList.map a.ev = [u] → ∃ x, xs = #[x] ∧ a.ev x = u ∧ opdOk x = true := by
        intro u hu
        cases hl : xs.toList with
        | nil => simp [hl] at hu
        | cons x l =>
          cases l with
          | cons _ _ => simp [hl] at hu
          | nil =>
            have hh := hok.2; rw [hl] at hh hu; simp at hh hu
            exact ⟨x, harr hl, hu, hh⟩
      have htwo : ∀ {u v : Value}, xs.toList.map a.ev = [u, v] → ∃ x y, xs = #[x, y] ∧ a.ev x = u ∧ a.ev y = v ∧ opdOk x = true ∧ opdOk y = true := by
        intro u v hu
        cases hl : xs.toList with
        | nil => simp [hl] at hu
        | cons x l =>
          cases l with
          | nil => simp [hl] at hu
          | cons y l =>
            cases l with
            | cons _ _ => simp [hl] at hu
            | nil =>
              have hh := hok.2; rw [hl] at hh hu; simp at hh hu
              exact ⟨x, y, harr hl, hu.1, hu.2, hh.1, hh.2⟩
      split at h
      · rename_i t tl x hts hxs
        obtain ⟨x', rfl, rfl, hx⟩ := hone hxs
        obtain ⟨v, hv, hk⟩ := h
        exact .inl ⟨_, _, op_len ho (by rw [← Array.getElem?_toList, hts]; rfl) hx hv, hk⟩
      · rename_i x y hxs
        obtain ⟨x', y', rfl, rfl, rfl, hx, hy⟩ := htwo hxs
        obtain ⟨v, m', hv, hk⟩ := h
        exact .inl ⟨_, _, op_append ho hx hy hv, hk⟩
      · rename_i x y hxs
        obtain ⟨x', y', rfl, rfl, rfl, hx, hy⟩ := htwo hxs
        obtain ⟨v, m', hv, hk⟩ := h
        exact .inl ⟨_, _, op_copy ho hx hy hv, hk⟩
      · obtain ⟨v, hv, hk⟩ := h
        exact .inl ⟨_, _, op_mm ho hok.2 hv, hk⟩
      · obtain ⟨v, hv, hk⟩ := h
        exact .inl ⟨_, _, op_mm ho hok.2 hv, hk⟩
      · rename_i x hxs
        obtain ⟨x', rfl, rfl, hx⟩ := hone hxs
        obtain ⟨t, v, hv, hk⟩ := h
        rw [hv] at hk
        exact .inr ⟨_, _, op_panic (by simp [ho]) x' hx hv (fun aw w y' e => by simp [execOp, ho, resolve, invoke, builtin, e, Instr.panic]), hk⟩
      · exact h.elim
  | _ => exact h.elim
end
end Go.Proofs.Ytjkfleibnojjaaa
end

section
namespace Go.Proofs.Ytjkfleibnojjaaa
open Go

/-! ### Regions -/
structure gop (g : Option Bool) (X : (Value → CM → Prop) → Prop) (K : Value → CM → Prop) (m : CM) : Prop where
  h : match g with
    | some true => X K
    | some false => K undef m
    | none => False
def gb (v : Value) (want : Bool) : Option Bool := match v with | .bool b => some (b == want) | .tuple ⟨[]⟩ => some false | _ => none
def cguard (ops : Array Oper) (o : Oper) (a : CA) : Option Bool :=
  match o.guard with
  | none => some true
  | some (j, want) => match (ops[j]?).bind (·.dst) with | some d => gb (a.ρ d) want | none => none

def cdefer (a : CA) (o : Op) : Option Deferred :=
  match o with
  | .defer c =>
    match c.callee with
    | .value f => match a.ev f with | .func fn ⟨fs⟩ cs => if fnOk fn && opdOk f && c.args.toList.all opdOk then some { target := .fn fn cs, args := ⟨fs ++ c.args.toList.map a.ev⟩ } else none | _ => none
    | _ => none
  | _ => none
def isDefer (o : Op) : Bool := match o with | .defer _ => true | _ => false

def wpcOps (P : Program) (r : Option Nat) (ops : Array Oper) : List Nat → (Exit → CA → CM → Prop) → CA → CM → Prop
  | [], Q, a, m => Q .normal a m
  | i :: rest, Q, a, m =>
    match ops[i]? with
    | none => wpcOps P r ops rest Q a m
    | some o =>
      match isDefer o.op with
      | true => (match r.isNone && o.guard.isNone with
        | true => (match cdefer a o.op with | some d => wpcOps P r ops rest Q ({ a with ds := d :: a.ds }.put o.dst undef) m | none => False)
        | false => False)
      | false =>
        match o.guard with
        | none => opw P o.op a m (fun v m' => wpcOps P r ops rest Q (a.put o.dst v) m') (fun ch m' => Q (.panic ch) a m')
        | some (j, want) =>
          match (ops[j]?).bind (·.dst) with
          | some d => gop (gb (a.ρ d) want) (fun K => opw P o.op a m K (fun ch m' => Q (.panic ch) a m')) (fun v m' => wpcOps P r ops rest Q (a.put o.dst v) m') m
          | none => False

def CEvOps (P : Program) (r : Option Nat) (ops : Array Oper) (l : List Nat) (a : CA) (m : CM) (e : Exit) (a' : CA) (m' : CM) : Prop :=
  ∀ ι w aw F, Rel ι m w → RelA ι a aw → FR ι r F → ∀ Q : Exit → Act → World → Prop, (∀ e' aw' w', After ι m w e a' m' e' aw' w' → Q e' aw' w') → wpOpsIn F 0 P ops Q l aw w

section
variable {P : Program} {r : Option Nat}
theorem cguard_wanted {ops : Array Oper} {o : Oper} {a : CA} {ι : Inj} {aw : Act} (ha : RelA ι a aw) (hds : ∀ o ∈ ops.toList, dOk a.n o.dst = true) {g : Bool} (h : cguard ops o a = some g) : Region.wanted o (yielded ops aw.tmps) = g := by
  unfold cguard at h
  unfold Region.wanted
  cases hg : o.guard with
  | none => simp [hg] at h; simp [h]
  | some jw =>
    obtain ⟨j, want⟩ := jw
    simp only [hg] at h ⊢
    cases hd : (ops[j]?).bind (·.dst) with
    | none => simp [hd] at h
    | some d =>
      simp only [hd] at h
      have hn : d < a.n := by
        cases hj : ops[j]? with
        | none => rw [hj] at hd; cases hd
        | some oj =>
          rw [hj] at hd
          have hm : oj ∈ ops.toList := by simpa using Array.mem_of_getElem? hj
          have := hds oj hm
          simp only [Option.bind_some] at hd
          rw [hd] at this; simpa [dOk] using this
      unfold gb at h
      split at h
      · rename_i b hb
        cases h
        have ht := ha.tmps d
        rw [hb] at ht
        have e := tr_bool ht
        have hsz : d < aw.tmps.size := by rw [ha.size]; exact hn
        have e2 : aw.tmps[d]? = some (.bool b) := by
          rw [Array.getD_eq_getD_getElem?, Array.getElem?_eq_getElem hsz] at e
          rw [Array.getElem?_eq_getElem hsz]
          simpa using e
        simp [yielded, hd, e2]
      · rename_i hb
        cases h
        have ht := ha.tmps d
        rw [hb] at ht
        have e : aw.tmps.getD d undef = .tuple #[] := by simpa [tr, trL] using ht.symm
        have hsz : d < aw.tmps.size := by rw [ha.size]; exact hn
        have e2 : aw.tmps[d]? = some (.tuple #[]) := by
          rw [Array.getD_eq_getD_getElem?, Array.getElem?_eq_getElem hsz] at e
          rw [Array.getElem?_eq_getElem hsz]
          simpa using e
        simp [yielded, hd, e2]
      · cases h

theorem wpcOps_sound {ops : Array Oper} (hok : ∀ o ∈ ops.toList, opOk o.op = true ∨ isDefer o.op = true) {n : Nat} (hds : ∀ o ∈ ops.toList, dOk n o.dst = true) : ∀ (l : List Nat) (Q : Exit → CA → CM → Prop) (a : CA) (m : CM), a.n = n → wpcOps P r ops l Q a m →
    ∃ e a' m', CEvOps P r ops l a m e a' m' ∧ a'.n = n ∧ Q e a' m'
  | [], Q, a, m, hn, h => ⟨.normal, a, m, fun ι w aw F hr ha hF Q hQ => hQ _ _ _ (after_refl hr ha trivial), hn, h⟩
  | i :: rest, Q, a, m, hn, h => by
    simp only [wpcOps] at h
    cases ho : ops[i]? with
    | none =>
      simp only [ho] at h
      obtain ⟨e, a', m', h1, h2⟩ := wpcOps_sound hok hds rest Q a m hn h
      refine ⟨e, a', m', fun ι w aw F hr ha hF Q hQ => ?_, h2⟩
      simp only [wpOpsIn, ho]
      exact h1 ι w aw F hr ha hF Q hQ
    | some o =>
      simp only [ho] at h
      have hmem : o ∈ ops.toList := by
        have := Array.mem_of_getElem? ho
        simpa using this
      have hod : dOk a.n o.dst = true := by rw [hn]; exact hds o hmem
      have hdsa : ∀ o ∈ ops.toList, dOk a.n o.dst = true := by rw [hn]; exact hds
      by_cases hdf : isDefer o.op = true
      · simp only [hdf] at h
        obtain ⟨hrn, hgn, d, hd, hk⟩ : r = none ∧ o.guard = none ∧ ∃ d, cdefer a o.op = some d ∧ wpcOps P r ops rest Q ({ a with ds := d :: a.ds }.put o.dst undef) m := by
          split at h
          · rename_i hh
            simp only [Bool.and_eq_true, Option.isNone_iff_eq_none] at hh
            split at h
            · rename_i d hd; exact ⟨hh.1, hh.2, d, hd, h⟩
            · exact h.elim
          · exact h.elim
        obtain ⟨e, a', m', h1, h2⟩ := wpcOps_sound hok hds rest Q _ m (by rw [put_n]; exact hn) hk
        refine ⟨e, a', m', fun ι w aw F hr ha hF Q hQ => ?_, h2⟩
        simp only [wpOpsIn, ho]
        have hwant : Region.wanted o (yielded ops aw.tmps) = true := by simp [Region.wanted, hgn]
        rw [if_pos hwant]
        subst hrn
        cases hF
        refine ⟨fun f _ => trivial, ?_⟩
        unfold cdefer at hd
        split at hd
        · rename_i c hop
          split at hd
          · rename_i f hcal
            split at hd
            · rename_i fn fs cs hv
              by_cases hcc : (fnOk fn && opdOk f && c.args.toList.all opdOk) = true
              · rw [if_pos hcc] at hd; cases hd
                simp only [Bool.and_eq_true] at hcc
                have h0 := ha.ev hcc.1.2
                rw [hv] at h0
                obtain ⟨cs⟩ := cs
                have hfn : trFn ι fn = some fn := by cases fn <;> simp_all [trFn, fnOk]
                simp only [tr, hfn] at h0
                cases e1 : trL ι fs with
                | none => simp [e1] at h0
                | some fs' =>
                  cases e2 : trL ι cs with
                  | none => simp [e1, e2] at h0
                  | some cs' =>
                    simp [e1, e2] at h0
                    have hx := trL_map ha _ hcc.2
                    have hrun : (o.semAt Fence.wide.round aw.eval).run P w = .ok (.defer { target := .fn fn ⟨cs'⟩, args := ⟨fs' ++ c.args.toList.map aw.eval⟩ }) w := by
                      have : o.semAt Fence.wide.round aw.eval = execOp aw.eval o := rfl
                      rw [this]
                      simp only [execOp, hop, resolve, hcal, ← h0, Deferred.ofValue, Sem.run_bind, Sem.run_pure, Result.andThen_ok]
                      have e3 : (⟨fs'⟩ : Array Value) ++ c.args.map aw.eval = ⟨fs' ++ c.args.toList.map aw.eval⟩ := Array.ext' (by simp)
                      rw [e3]
                    rw [hrun]
                    show wpOpsIn Fence.wide 0 P ops Q rest _ w
                    refine h1 ι w _ Fence.wide hr ?_ rfl Q hQ
                    refine RelA.put (a := { a with ds := _ :: a.ds }) (aw := { aw with defers := _ :: aw.defers }) (v := undef) (v' := undef) ⟨ha.size, ha.tmps, ?_⟩ o.dst hod (by simp [undef, tr, trL])
                    have e4 : trD ι { target := .fn fn ⟨cs⟩, args := ⟨fs ++ c.args.toList.map a.ev⟩ } = some { target := .fn fn ⟨cs'⟩, args := ⟨fs' ++ c.args.toList.map aw.eval⟩ } := by
                      simp only [trD, hfn, e2, trL_append e1 hx]
                    show trDs ι (_ :: a.ds) = some _
                    simp only [trDs, e4, ha.ds]
              · rw [if_neg hcc] at hd; cases hd
            · cases hd
          · cases hd
        · cases hd
      · have hdf' : isDefer o.op = false := by simpa using hdf
        simp only [hdf'] at h
        have hopk : opOk o.op = true := (hok o hmem).resolve_right hdf
        replace h : match cguard ops o a with
            | some true => opw P o.op a m (fun v m' => wpcOps P r ops rest Q (a.put o.dst v) m') (fun ch m' => Q (.panic ch) a m')
            | some false => wpcOps P r ops rest Q (a.put o.dst undef) m
            | none => False := by
          unfold cguard
          cases hgu : o.guard with
          | none => simp only [hgu] at h ⊢; exact h
          | some jw =>
            obtain ⟨j, want⟩ := jw
            simp only [hgu] at h ⊢
            cases hd : (ops[j]?).bind (·.dst) with
            | none => simp only [hd] at h
            | some d => simp only [hd] at h ⊢; exact h.h
        split at h
        · rename_i hg
          rcases opw_sound (r := r) (o := o) hopk h with ⟨v, m1, hv, hk⟩ | ⟨ch, m1, hv, hk⟩
          · obtain ⟨e, a', m', h1, h2⟩ := wpcOps_sound hok hds rest Q _ m1 (by rw [put_n]; exact hn) hk
            refine ⟨e, a', m', fun ι w aw F hr ha hF Q hQ => ?_, h2⟩
            simp only [wpOpsIn, ho]
            rw [if_pos (cguard_wanted ha hdsa hg)]
            refine hv ι w aw F hr ha hF _ _ ?_
            intro ι' w' v' hle hr' ht hf
            exact h1 ι' w' _ F hr' ((ha.mono hle).put o.dst hod ht) (hF.mono hle) Q (fun e' aw' w'' hh => hQ e' aw' w'' (hh.trans hr hr' hle hf))
          · refine ⟨.panic ch, a, m1, fun ι w aw F hr ha hF Q hQ => ?_, hn, hk⟩
            simp only [wpOpsIn, ho]
            rw [if_pos (cguard_wanted ha hdsa hg)]
            refine hv ι w aw F hr ha hF _ _ ?_
            intro ι' w' ch' hle hr' ht hf
            exact hQ _ _ _ ⟨ι', hle, hr', ha.mono hle, ht, hf⟩
        · rename_i hg
          obtain ⟨e, a', m', h1, h2⟩ := wpcOps_sound hok hds rest Q _ m (by rw [put_n]; exact hn) h
          refine ⟨e, a', m', fun ι w aw F hr ha hF Q hQ => ?_, h2⟩
          simp only [wpOpsIn, ho]
          rw [if_neg (by rw [cguard_wanted ha hdsa hg]; simp)]
          exact ⟨fun f _ => hF.fn f, h1 ι w _ F hr (ha.put o.dst hod (by simp [undef, tr, trL])) hF Q hQ⟩
        · exact h.elim

theorem cev_region {id : Nat} {ops : Array Oper} {a a' : CA} {m m' : CM} {e : Exit} (h : CEvOps P r ops (List.range ops.size) a m e a' m') : CEvC P r (.region id ops false) a m e a' m' :=
  fun ι w aw F hr ha hF => wpIn_region (h ι w aw F hr ha hF _ (fun _ _ _ hh => hh))

/-! ### A range over a function -/
def rfRec (a : CA) (ps : Array Tmp) (as bd : Code) (D : Nat) : CL := { state := .ready, pending := none, a := a, params := ps.toList, assign := as, body := bd, defers := D }
def mark (D : Nat) : Deferred := { target := .collected D, args := #[] }
def rfMark (a : CA) (D : Nat) : CA := { a with ds := mark D :: a.ds }
/-- What follows each way of leaving. -/
def exE (e : Exit) (N Rt : Prop) (X G : Nat → Prop) (Pn : List PanicEntry → Prop) (Og : Prop) : Prop := match e with | .normal => N | .exit i => X i | .goto i => G i | .ret => Rt | .panic ch => Pn ch | .outgrown => Og
def pendX : Option Code → Option Exit
  | none => some .normal
  | some .ret => some .ret
  | some (.exit i) => some (.exit i)
  | some (.goto i) => some (.goto i)
  | _ => none
def yv (l : Nat) : Value := .func (.yield l) ⟨[]⟩ ⟨[]⟩
structure rfE (l : Nat) (m : CM) (K : Exit → CM → Prop) : Prop where
  h : ∃ L, m.get l = some (.loop L) ∧ L.state ≠ .busy ∧ ∃ e, pendX L.pending = some e ∧ K e (m.put l (.loop { L with state := .exhausted }))
def rfEnd (l : Nat) (Q : Exit → CA → CM → Prop) (a : CA) (m : CM) : Prop := rfE l m (fun e m => Q e a m)
/-- A range over a function, outside of every other one's round. -/
structure rfO (P : Program) (fv : Value) (m : CM) (Rc : Nat → CL) (K : Nat → Exit → CM → Prop) (Kp : Nat → List PanicEntry → CM → Prop) : Prop where
  h : ∃ gf fs cs, fv = .func (.func gf) ⟨fs⟩ ⟨cs⟩ ∧ callw P gf (fs ++ [yv (m.next + 1)] ++ cs) ((m.alloc .dfr).alloc (.loop (Rc m.next))) (fun _ m2 => rfE (m.next + 1) m2 (K m.next)) (Kp m.next)
/-- A range over a function, inside a round of l0. -/
structure rfI (P : Program) (l0 : Nat) (fv : Value) (m : CM) (Rc : Nat → CL) (K : Exit → CM → Prop) (Kp : List PanicEntry → CM → Prop) : Prop where
  h : ∃ gf fs cs L0, fv = .func (.func gf) ⟨fs⟩ ⟨cs⟩ ∧ m.get l0 = some (.loop L0) ∧ callw P gf (fs ++ [yv m.next] ++ cs) (m.alloc (.loop (Rc L0.defers))) (fun _ m2 => rfE m.next m2 K) Kp
def rfw (P : Program) (r : Option Nat) (f : Operand) (ps : Array Tmp) (as bd : Code) (Q : Exit → CA → CM → Prop) (a : CA) (m : CM) : Prop :=
  match opdOk f with
  | true =>
    match r with
    | none => rfO P (a.ev f) m (fun D => rfRec a ps as bd D) (fun D e m2 => Q e (rfMark a D) m2) (fun D ch m2 => Q (.panic ch) (rfMark a D) m2)
    | some l0 => rfI P l0 (a.ev f) m (fun D => rfRec a ps as bd D) (fun e m2 => Q e a m2) (fun ch m2 => Q (.panic ch) a m2)
  | false => False

theorem run_getLoop {w : World} {l : Nat} {L : Loop} (h : w.heap[l]? = some (.loop L)) : (Instr.getLoop l).run P w = .ok L w := by simp [Instr.getLoop, getObj, Sem.run, h]
theorem run_setLoop {w : World} {l : Nat} {o o' : Obj} (h : w.heap[l]? = some o) (hc : ∀ a b c, o ≠ .cells a b c) : (setObj l o').run P w = .ok () { w with heap := w.heap.setIfInBounds l o' } := by
  cases o <;> simp_all [setObj, Sem.run]

/-- A loop's record turned. -/
theorem Rel.setLoop {ι : Inj} {m : CM} {w : World} (hr : Rel ι m w) {l : Nat} {L L2 : CL} (hl : m.get l = some (.loop L)) {p : Pl} (hp : ι l = some p) (hL : L2.a = L.a ∧ L2.params = L.params ∧ L2.assign = L.assign ∧ L2.body = L.body ∧ L2.defers = L.defers) :
    ∃ Lw, w.heap[p.blk]? = some (.loop Lw) ∧ LRel ι L Lw ∧ Rel ι (m.put l (.loop L2)) { w with heap := w.heap.setIfInBounds p.blk (.loop { Lw with state := L2.state, pending := L2.pending }) } ∧
      Fr ι m w ι (m.put l (.loop L2)) { w with heap := w.heap.setIfInBounds p.blk (.loop { Lw with state := L2.state, pending := L2.pending }) } := by
  obtain ⟨q, hq, Lw, hw, hrel⟩ := hr.blk _ _ hl
  rw [hp] at hq; cases hq
  have hlt : p.blk < w.heap.size := (Array.getElem?_eq_some_iff.1 hw).1
  obtain ⟨e1, e2, e3, e4, e5⟩ := hL
  have hs := hr.setBlock hl rfl (x' := .loop L2) rfl hp (w' := { w with heap := w.heap.setIfInBounds p.blk (.loop { Lw with state := L2.state, pending := L2.pending }) })
    ⟨{ Lw with state := L2.state, pending := L2.pending }, by simp [hlt], ⟨rfl, rfl, by rw [e1]; exact hrel.size, by rw [e1]; exact hrel.tmps, by rw [e2]; exact hrel.params, by rw [e3]; exact hrel.assign, by rw [e4]; exact hrel.body, by rw [e5]; exact hrel.defers⟩⟩
    (fun B hB => by simp [Ne.symm hB]) (by simp) rfl rfl rfl
  exact ⟨Lw, hw, hrel, hs.1, hs.2⟩

theorem LRel_mk {ι : Inj} {a : CA} {aw : Act} (ha : RelA ι a aw) {fn : FuncId} {ps : Array Tmp} {as bd : Code} {D : Nat} {p : Pl} (hD : ι D = some p) :
    LRel ι (rfRec a ps as bd D) { state := .ready, pending := none, fn, tmps := aw.tmps, params := ps, assign := as, body := bd, defers := p.blk } :=
  ⟨rfl, rfl, ha.size, ha.tmps, rfl, rfl, rfl, p, hD, rfl⟩

theorem run_endLoop' {w : World} {l : Nat} {L : Loop} (h : w.heap[l]? = some (.loop L)) (hs : L.state ≠ .busy) :
    (Instr.endLoop l).run P w = .ok L.pending { w with heap := w.heap.setIfInBounds l (.loop { L with state := .exhausted }) } := by
  have hs' : ¬ (L.state = LoopState.busy) := hs
  simp [Instr.endLoop, run_getLoop h, run_setLoop h, hs']

theorem rangeFunc_end {F : Fence} {ι : Inj} {m0 : CM} {w0 : World} {l : Nat} {a : CA} {Q : Exit → CA → CM → Prop} {m : CM} (h : rfEnd l Q a m) :
    ∃ e m3, Q e a m3 ∧ ∀ (ι2 : Inj) (w3 : World) (aw : Act) (p : Pl), ι.le ι2 → Rel ι2 m w3 → RelA ι2 a aw → Fr ι m0 w0 ι2 m w3 → Rel ι m0 w0 → ι2 l = some p → ∀ e0 v, e0 = Ending.returned v →
      rangePost F 0 P p.blk (After ι m0 w0 e a m3) aw e0 w3 := by
  obtain ⟨L, hl, hs, e, hpx, hq⟩ := h
  refine ⟨e, _, hq, ?_⟩
  intro ι2 w3 aw p hle hr ha hf hr0 hp e0 v he0
  subst he0
  obtain ⟨Lw, hw, hrel, h1, h2⟩ := hr.setLoop (L2 := { L with state := .exhausted }) hl hp ⟨rfl, rfl, rfl, rfl, rfl⟩
  have hpe : Lw.pending = L.pending := hrel.pending
  have e3 : ({ Lw with state := .exhausted, pending := L.pending } : Loop) = { Lw with state := .exhausted } := by rw [← hpe]
  simp only [e3] at h1 h2
  refine ⟨Lw.pending, _, run_endLoop' hw (by rw [hrel.state]; exact hs), ?_⟩
  have key : ∀ pd, pendX pd = some e → (match pd with
      | none => After ι m0 w0 e a (m.put l (.loop { L with state := .exhausted })) .normal aw { w3 with heap := w3.heap.setIfInBounds p.blk (.loop { Lw with state := .exhausted }) }
      | some c => c.wpIn F 0 P (After ι m0 w0 e a (m.put l (.loop { L with state := .exhausted }))) aw { w3 with heap := w3.heap.setIfInBounds p.blk (.loop { Lw with state := .exhausted }) }) := by
    have haft : ∀ e', XRel ι2 e e' → After ι m0 w0 e a (m.put l (.loop { L with state := .exhausted })) e' aw { w3 with heap := w3.heap.setIfInBounds p.blk (.loop { Lw with state := .exhausted }) } := fun e' hx =>
      ⟨ι2, hle, h1, ha, hx, hf.trans hr0 hr hle h2⟩
    intro pd hpd
    cases pd with
    | none => simp [pendX] at hpd; subst hpd; exact haft .normal trivial
    | some c =>
      cases c <;> simp [pendX] at hpd <;> subst hpd
      · exact wpIn_exit (haft (.exit _) rfl)
      · exact wpIn_goto (haft (.goto _) rfl)
      · exact wpIn_ret (haft .ret trivial)
  obtain ⟨pd, hpd⟩ : ∃ pd, Lw.pending = pd := ⟨_, rfl⟩
  have k2 := key pd (by rw [← hpd, hpe]; exact hpx)
  rw [← hpd] at k2
  exact k2

theorem run_enterLoop_out (fn : FuncId) (tmps : Array Value) (ps : Array Tmp) (as bd : Code) (w : World) :
    (Instr.enterLoop fn tmps ps as bd none).run P w = .ok (w.heap.size + 1, [{ target := .collected w.heap.size, args := #[] }]) ((w.alloc (.deferred (some []))).alloc (.loop { state := .ready, pending := none, fn, tmps, params := ps, assign := as, body := bd, defers := w.heap.size })) := by
  simp [Instr.enterLoop]
theorem run_enterLoop_in (fn : FuncId) (tmps : Array Value) (ps : Array Tmp) (as bd : Code) (w : World) {l : Nat} {L : Loop} (h : w.heap[l]? = some (.loop L)) :
    (Instr.enterLoop fn tmps ps as bd (some l)).run P w = .ok (w.heap.size, []) (w.alloc (.loop { state := .ready, pending := none, fn, tmps, params := ps, assign := as, body := bd, defers := L.defers })) := by
  simp [Instr.enterLoop, run_getLoop h]

theorem heap_alloc_self (w : World) (o : Obj) : (w.alloc o).heap[w.heap.size]? = some o := by show (w.heap.push _)[w.heap.size]? = _; simp
theorem heap_alloc_lt (w : World) (o : Obj) {B : Nat} (h : B < w.heap.size) : (w.alloc o).heap[B]? = w.heap[B]? := by show (w.heap.push _)[B]? = _; rw [Array.getElem?_push, if_neg (by omega)]

theorem rfw_sound {f : Operand} {ps : Array Tmp} {as bd : Code} {Q : Exit → CA → CM → Prop} {a : CA} {m : CM} (h : rfw P r f ps as bd Q a m) : ∃ e a' m', CEvC P r (.rangeFunc f ps as bd) a m e a' m' ∧ a'.n = a.n ∧ Q e a' m' := by
  -- what the call leaves, and how the world comes to it
  have fin : ∀ {gf : FuncId} {fs cs : List Value} {l : Nat} {m1 : CM} {a2 : CA}, a.ev f = .func (.func gf) ⟨fs⟩ ⟨cs⟩ → opdOk f = true →
      callw P gf (fs ++ [yv l] ++ cs) m1 (fun _ m2 => rfEnd l Q a2 m2) (fun ch m2 => Q (.panic ch) a2 m2) →
      (∀ ι w aw F, Rel ι m w → RelA ι a aw → FR ι r F → ∀ fn, ∃ ι1 w1 lw mark, (Instr.enterLoop fn aw.tmps ps as bd F.round).run P w = .ok (lw, mark) w1 ∧ ι.le ι1 ∧ Rel ι1 m1 w1 ∧ Fr ι m w ι1 m1 w1 ∧ RelA ι1 a2 { aw with defers := mark ++ aw.defers } ∧ ∃ p, ι1 l = some p ∧ p.blk = lw) →
      a2.n = a.n → ∃ e a' m', CEvC P r (.rangeFunc f ps as bd) a m e a' m' ∧ a'.n = a.n ∧ Q e a' m' := by
    intro gf fs cs l m1 a2 hv hf0 ⟨ce, m2, hc, hk⟩ hent hna
    -- the common part of both endings
    have common : ∀ {e : Exit} {m3 : CM}, (∀ (ι : Inj) (w : World) (ι2 : Inj) (w3 : World) (aw : Act) (p : Pl) (F : Fence) (e0 : Ending), FR ι r F → ι.le ι2 → Rel ι2 m2 w3 → RelA ι2 a2 aw → Fr ι m w ι2 m2 w3 → Rel ι m w → ι2 l = some p → ERel ι2 ce e0 →
        rangePost F 0 P p.blk (After ι m w e a2 m3) aw e0 w3) → CEvC P r (.rangeFunc f ps as bd) a m e a2 m3 := by
      intro e m3 hpost ι w aw F hr ha hF
      refine wpIn_rangeFunc ?_
      intro fn _
      obtain ⟨ι1, w1, lw, mark, hrun, hle1, hr1, hf1, ha1, p, hp, hpl⟩ := hent ι w aw F hr ha hF fn
      have h0 := ha.ev hf0
      rw [hv] at h0
      simp only [tr, trFn] at h0
      cases e1 : trL ι fs with
      | none => simp [e1] at h0
      | some fs' =>
        cases e2 : trL ι cs with
        | none => simp [e1, e2] at h0
        | some cs' =>
          simp [e1, e2] at h0
          have hy : trL ι1 [yv l] = some [.func (.yield lw) ⟨[]⟩ ⟨[]⟩] := by simp [yv, trL, tr, trFn, hp, hpl]
          have htr : trL ι1 (fs ++ [yv l] ++ cs) = some (fs' ++ [.func (.yield lw) ⟨[]⟩ ⟨[]⟩] ++ cs') := trL_append (trL_append (trL_mono hle1 _ _ e1) hy) (trL_mono hle1 _ _ e2)
          refine ⟨lw, mark, w1, { target := .fn (.func gf) ⟨cs'⟩, args := ⟨fs'⟩ ++ #[.func (.yield lw) #[] #[]] }, w1, gf, ⟨fs' ++ [.func (.yield lw) ⟨[]⟩ ⟨[]⟩] ++ cs'⟩, w1, hrun, ?_, fun f' _ => hF.fn f', ?_, fun hh => by rw [hF.depth] at hh; simp at hh, ?_⟩
          · simp only [resolve, ← h0, Deferred.ofValue]
            have e5 : Array.map aw.eval #[Operand.const (Value.func (Fn.yield lw) #[] #[])] = #[.func (.yield lw) #[] #[]] := by simp [Act.eval]
            rw [e5]; rfl
          · simp only [invoke]
            have e3 : (⟨fs'⟩ : Array Value) ++ #[.func (.yield lw) #[] #[]] ++ ⟨cs'⟩ = ⟨fs' ++ [.func (.yield lw) ⟨[]⟩ ⟨[]⟩] ++ cs'⟩ := Array.ext' (by simp)
            rw [e3]
            exact run_callFunc hc.1 _ _
          · refine (CallsIn.toFR hF (hc.2 ι1 w1 _ hr1 htr)).mono ?_
            rintro e0 w3 ⟨ι2, hle2, hr2, he0, hf2⟩
            rw [← hpl]
            exact hpost ι w ι2 w3 _ p F e0 hF (hle1.trans hle2) hr2 (ha1.mono hle2) (hf1.trans hr hr1 hle1 hf2) hr (hle2 _ _ hp) he0
    cases ce with
    | ret v =>
      simp only at hk
      obtain ⟨e, m3, hq, hend⟩ : ∃ e m3, Q e a2 m3 ∧ ∀ (ι : Inj) (w : World) (ι2 : Inj) (w3 : World) (aw : Act) (p : Pl) (F : Fence) (e0 : Ending), FR ι r F → ι.le ι2 → Rel ι2 m2 w3 → RelA ι2 a2 aw → Fr ι m w ι2 m2 w3 → Rel ι m w → ι2 l = some p → ERel ι2 (.ret v) e0 →
          rangePost F 0 P p.blk (After ι m w e a2 m3) aw e0 w3 := by
        obtain ⟨L, hl, hs, e, hpx, hq⟩ := hk
        refine ⟨e, _, hq, ?_⟩
        intro ι w ι2 w3 aw p F e0 hF hle hr2 ha2 hf hr hp he0
        cases e0 with
        | returned v' =>
          obtain ⟨e', m3', hq', hh⟩ := rangeFunc_end (P := P) (m0 := m) (w0 := w) (Q := fun e' a' m' => e' = e ∧ a' = a2 ∧ m' = m2.put l (.loop { L with state := .exhausted })) (F := F) (ι := ι) (l := l) (a := a2) (m := m2) ⟨L, hl, hs, e, hpx, rfl, rfl, rfl⟩
          obtain ⟨rfl, _, rfl⟩ := hq'
          exact hh ι2 w3 aw p hle hr2 ha2 hf hr hp _ v' rfl
        | panicked c => exact he0.elim
        | outgrown => exact he0.elim
      exact ⟨e, a2, m3, common hend, hna, hq⟩
    | pan ch =>
      refine ⟨.panic ch, a2, m2, common ?_, hna, hk⟩
      intro ι w ι2 w3 aw p F e0 hF hle hr2 ha2 hf hr hp he0
      cases e0 with
      | panicked c => exact ⟨ι2, hle, hr2, ha2, he0, hf⟩
      | returned c => exact he0.elim
      | outgrown => exact he0.elim
  unfold rfw at h
  split at h
  case h_2 => exact h.elim
  rename_i hf0
  cases r with
  | none =>
    obtain ⟨gf, fs, cs, hv, hc⟩ := h
    refine fin hv hf0 hc ?_ rfl
    intro ι w aw F hr ha hF fn
    cases hF
    have hn1 := hr.newBlock (x := .dfr) (p := ⟨w.heap.size, 0, 0, 0, none⟩) (ob := .deferred (some [])) rfl (by exact heap_alloc_self _ _)
    have hle1 := Inj.le_ext (p := ⟨w.heap.size, 0, 0, 0, none⟩) (hr.fresh _ (Nat.le_refl _))
    have hfr1 := hn1.1.fresh _ (Nat.le_refl _)
    have hle2 := Inj.le_ext (p := ⟨w.heap.size + 1, 0, 0, 0, none⟩) hfr1
    have hn2 := hn1.1.newBlock (x := .loop (rfRec a ps as bd m.next)) (p := ⟨w.heap.size + 1, 0, 0, 0, none⟩)
      (ob := .loop { state := .ready, pending := none, fn, tmps := aw.tmps, params := ps, assign := as, body := bd, defers := w.heap.size }) (by simp)
      ⟨_, by have := heap_alloc_self (w.alloc (.deferred (some []))) (.loop { state := .ready, pending := none, fn, tmps := aw.tmps, params := ps, assign := as, body := bd, defers := w.heap.size }); simpa using this,
        LRel_mk (p := ⟨w.heap.size, 0, 0, 0, none⟩) (ha.mono (hle1.trans hle2)) (hle2 _ _ (Inj.ext_same ..))⟩
    refine ⟨_, _, w.heap.size + 1, _, run_enterLoop_out fn aw.tmps ps as bd w, hle1.trans hle2, hn2.1, hn1.2.trans hr hn1.1 hle1 hn2.2, ?_, ⟨w.heap.size + 1, 0, 0, 0, none⟩, Inj.ext_same .., rfl⟩
    have ha2 := ha.mono (hle1.trans hle2)
    have hD : (ι.ext m.next ⟨w.heap.size, 0, 0, 0, none⟩).ext (m.alloc .dfr).next ⟨w.heap.size + 1, 0, 0, 0, none⟩ m.next = some ⟨w.heap.size, 0, 0, 0, none⟩ := hle2 _ _ (Inj.ext_same ..)
    refine ⟨ha2.size, ha2.tmps, ?_⟩
    simp only [rfMark, mark, trDs, trD, hD, Option.map_some, ha2.ds]
    rfl
  | some l0 =>
    obtain ⟨gf, fs, cs, L0, hv, hl0, hc⟩ := h
    refine fin hv hf0 hc ?_ rfl
    intro ι w aw F hr ha hF fn
    obtain ⟨p0, hp0, rfl⟩ := hF
    obtain ⟨q, hq, Lw, hw, hrel⟩ := hr.blk _ _ hl0
    rw [hp0] at hq; cases hq
    obtain ⟨pd, hpd, hdd⟩ := hrel.defers
    have hle1 := Inj.le_ext (p := ⟨w.heap.size, 0, 0, 0, none⟩) (hr.fresh _ (Nat.le_refl _))
    have hn1 := hr.newBlock (x := .loop (rfRec a ps as bd L0.defers)) (p := ⟨w.heap.size, 0, 0, 0, none⟩)
      (ob := .loop { state := .ready, pending := none, fn, tmps := aw.tmps, params := ps, assign := as, body := bd, defers := Lw.defers }) rfl
      ⟨_, heap_alloc_self _ _, by rw [hdd]; exact LRel_mk (ha.mono hle1) (hle1 _ _ hpd)⟩
    refine ⟨_, _, w.heap.size, _, run_enterLoop_in fn aw.tmps ps as bd w hw, hle1, hn1.1, hn1.2, ?_, ⟨w.heap.size, 0, 0, 0, none⟩, Inj.ext_same .., rfl⟩
    exact ha.mono hle1
end
end Go.Proofs.Ytjkfleibnojjaaa
end

section
namespace Go.Proofs.Ytjkfleibnojjaaa
open Go

/-! ### A region whose order is drawn: every operation is looked at over what lay at the region's begin and what its own forerunners have laid. -/

/-- m' is m, and new blocks. -/
def CM.le (m m' : CM) : Prop := m.next ≤ m'.next ∧ ∀ b, b < m.next → m'.get b = m.get b
theorem CM.le.refl (m : CM) : m.le m := ⟨Nat.le_refl _, fun _ _ => rfl⟩
theorem CM.le.trans {a b c : CM} (h : a.le b) (k : b.le c) : a.le c := ⟨Nat.le_trans h.1 k.1, fun x hx => (k.2 x (Nat.lt_of_lt_of_le hx h.1)).trans (h.2 x hx)⟩
theorem CM.le_alloc (m : CM) (x : CB) : m.le (m.alloc x) := ⟨by simp, fun b hb => by rw [CM.get_alloc, if_neg (by omega)]⟩

structure Ent where
  v : Value
  lo : Nat
  m : Option CM
def Ent.hi (e : Ent) : Nat := match e.m with | none => e.lo | some m => m.next

def CM.over (m : CM) (lo : Nat) : Nat → CM → CM
  | 0, _ => m
  | k + 1, x => (m.over lo k x).set (lo + k) (x.get (lo + k))
theorem get_over (m : CM) (lo k : Nat) (x : CM) (b : Nat) : (m.over lo k x).get b = if lo ≤ b ∧ b < lo + k then x.get b else m.get b := by
  induction k with
  | zero => simp only [CM.over]; rw [if_neg (by omega)]
  | succ k ih =>
    simp only [CM.over, CM.get_set]
    by_cases e : b = lo + k
    · subst e; rw [if_pos rfl, if_pos (by omega)]
    · rw [if_neg e, ih]
      by_cases c : lo ≤ b ∧ b < lo + k
      · rw [if_pos c, if_pos (by omega)]
      · rw [if_neg c, if_neg (by omega)]

def overE (m : CM) (e : Ent) : CM := match e.m with | none => m | some x => m.over e.lo (x.next - e.lo) x
def overL (sel : Nat → Bool) : Nat → List Ent → CM → CM
  | _, [], m => m
  | i, e :: E, m => match e.m with | none => overL sel (i + 1) E m | some _ => overL sel (i + 1) E (if sel i then overE m e else m)
theorem overL_cons (sel : Nat → Bool) (i : Nat) (e : Ent) (E : List Ent) (m : CM) : overL sel i (e :: E) m = overL sel (i + 1) E (if sel i then overE m e else m) := by
  simp only [overL]
  split
  · rename_i h; simp [overE, h]
  · rfl
/-- What an operation looks at. -/
def memJ (m0 : CM) (E : List Ent) (sel : Nat → Bool) (nx : Nat) : CM := { overL sel 0 E m0 with next := nx }

/-- What a late store (its number, its block, what the block holds then) has left there. -/
def lay1 (sel : Nat → Bool) (M : CM) (t : Nat × Nat × CB) : CM := match sel t.1 with | true => (match M.get t.2.1 with | some _ => M.put t.2.1 t.2.2 | none => M) | false => M
def layW (sel : Nat → Bool) : List (Nat × Nat × CB) → CM → CM
  | [], M => M
  | t :: W, M => layW sel W (lay1 sel M t)
/-- What an operation looks at, with the late stores ahead of it. -/
def memL (m0 : CM) (E : List Ent) (W : List (Nat × Nat × CB)) (sel : Nat → Bool) (nx : Nat) : CM := layW sel W (memJ m0 E sel nx)
theorem layW_next (sel : Nat → Bool) : ∀ (W : List (Nat × Nat × CB)) (M : CM), (layW sel W M).next = M.next
  | [], M => rfl
  | t :: W, M => by
    simp only [layW]; rw [layW_next sel W]
    unfold lay1; split
    · split <;> simp
    · rfl
theorem lay1_get (sel : Nat → Bool) (M : CM) (t : Nat × Nat × CB) (c : Nat) (x : CB) : (lay1 sel M t).get c = some x ↔ (sel t.1 = true ∧ t.2.1 = c ∧ x = t.2.2 ∧ ∃ z, M.get c = some z) ∨ (¬ (sel t.1 = true ∧ t.2.1 = c) ∧ M.get c = some x) := by
  unfold lay1
  cases hs : sel t.1 with
  | false => simp
  | true =>
    simp only [true_and]
    by_cases e : t.2.1 = c
    · subst e
      cases hg : M.get t.2.1 with
      | none => simp [hg]
      | some z => simp [CM.get_put, eq_comm]
    · cases hg : M.get t.2.1 with
      | none => simp [e]
      | some z => simp [CM.get_put, e, Ne.symm e]
/-- The content, told. -/
theorem layW_get (sel : Nat → Bool) : ∀ (W : List (Nat × Nat × CB)) (M : CM) (c : Nat) (x : CB), W.Pairwise (fun t u => t.2.1 ≠ u.2.1) →
    ((layW sel W M).get c = some x ↔ (∃ t ∈ W, sel t.1 = true ∧ t.2.1 = c ∧ x = t.2.2 ∧ ∃ z, M.get c = some z) ∨ ((∀ t ∈ W, ¬ (sel t.1 = true ∧ t.2.1 = c)) ∧ M.get c = some x))
  | [], M, c, x, _ => by simp [layW]
  | t :: W, M, c, x, hp => by
    simp only [layW]
    rw [layW_get sel W _ c x (List.pairwise_cons.1 hp).2]
    have hne := (List.pairwise_cons.1 hp).1
    constructor
    · rintro (⟨u, hu, h1, h2, h3, z, hz⟩ | ⟨hno, h⟩)
      · rcases (lay1_get sel M t c z).1 hz with ⟨g1, g2, g3, g4⟩ | ⟨g1, g2⟩
        · exact absurd (g2.trans h2.symm) (hne u hu)
        · exact .inl ⟨u, by simp [hu], h1, h2, h3, z, g2⟩
      · rcases (lay1_get sel M t c x).1 h with ⟨g1, g2, g3, g4⟩ | ⟨g1, g2⟩
        · exact .inl ⟨t, by simp, g1, g2, g3, g4⟩
        · refine .inr ⟨fun u hu => ?_, g2⟩
          rcases List.mem_cons.1 hu with rfl | hu
          · exact g1
          · exact hno u hu
    · rintro (⟨u, hu, h1, h2, h3, z, hz⟩ | ⟨hno, h⟩)
      · rcases List.mem_cons.1 hu with rfl | hu
        · refine .inr ⟨fun v hv hh => hne v hv (h2.trans hh.2.symm), (lay1_get sel M u c x).2 (.inl ⟨h1, h2, h3, z, hz⟩)⟩
        · refine .inl ⟨u, hu, h1, h2, h3, z, (lay1_get sel M t c z).2 (.inr ⟨fun hh => hne u hu (hh.2.trans h2.symm), hz⟩)⟩
      · exact .inr ⟨fun u hu => hno u (by simp [hu]), (lay1_get sel M t c x).2 (.inr ⟨hno t (by simp), h⟩)⟩

def Chain : Nat → List Ent → Nat → Prop
  | n, [], N => n = N
  | n, e :: E, N => e.lo = n ∧ n ≤ e.hi ∧ Chain e.hi E N

theorem Chain.le : ∀ {n : Nat} {E : List Ent} {N : Nat}, Chain n E N → n ≤ N
  | _, [], _, h => Nat.le_of_eq h
  | _, _ :: _, _, h => Nat.le_trans h.2.1 h.2.2.le
theorem Chain.get : ∀ {n : Nat} {E : List Ent} {N : Nat}, Chain n E N → ∀ {i : Nat} {e : Ent}, E[i]? = some e → n ≤ e.lo ∧ e.lo ≤ e.hi ∧ e.hi ≤ N
  | _, [], _, _, i, e, h => by simp at h
  | n, e0 :: E, N, hc, i, e, h => by
    cases i with
    | zero => simp at h; subst h; exact ⟨Nat.le_of_eq hc.1.symm, by rw [hc.1]; exact hc.2.1, hc.2.2.le⟩
    | succ i =>
      simp at h
      obtain ⟨h1, h2, h3⟩ := hc.2.2.get h
      exact ⟨Nat.le_trans hc.2.1 h1, h2, h3⟩

theorem get_overE (m : CM) (e : Ent) (b : Nat) : (overE m e).get b = if e.lo ≤ b ∧ b < e.hi then (match e.m with | some x => x.get b | none => none) else m.get b := by
  unfold overE Ent.hi
  cases h : e.m with
  | none => simp only []; rw [if_neg (by omega)]
  | some x =>
    simp only [get_over]
    by_cases c : e.lo ≤ b ∧ b < x.next
    · rw [if_pos c, if_pos (by omega)]
    · rw [if_neg c, if_neg (by omega)]

/-- Below the chain's begin nothing turns. -/
theorem get_overL_low (sel : Nat → Bool) : ∀ (E : List Ent) (i n N : Nat) (m : CM) (b : Nat), Chain n E N → b < n → (overL sel i E m).get b = m.get b
  | [], _, _, _, _, _, _, _ => rfl
  | e :: E, i, n, N, m, b, hc, hb => by
    rw [overL_cons]
    rw [get_overL_low sel E _ _ _ _ b hc.2.2 (Nat.lt_of_lt_of_le hb hc.2.1)]
    split
    · rw [get_overE, if_neg (by have := hc.1; omega)]
    · rfl
/-- Within a range that was selected. -/
theorem get_overL_in (sel : Nat → Bool) : ∀ (E : List Ent) (i n N : Nat) (m : CM) (b j : Nat) (e : Ent), Chain n E N → E[j]? = some e → e.lo ≤ b → b < e.hi → (overL sel i E m).get b = if sel (i + j) then (match e.m with | some x => x.get b | none => none) else m.get b
  | [], _, _, _, _, _, _, _, _, h, _, _ => by simp at h
  | e0 :: E, i, n, N, m, b, j, e, hc, h, h1, h2 => by
    rw [overL_cons]
    cases j with
    | zero =>
      simp at h; subst h
      rw [get_overL_low sel E _ _ _ _ b hc.2.2 h2]
      simp only [Nat.add_zero]
      split
      · rw [get_overE, if_pos ⟨h1, h2⟩]
      · rfl
    | succ j =>
      simp at h
      have hlo := (hc.2.2.get h).1
      rw [get_overL_in sel E (i + 1) _ _ _ b j e hc.2.2 h h1 h2, show i + 1 + j = i + (j + 1) from by omega]
      split
      · rfl
      · split
        · rw [get_overE, if_neg (by omega)]
        · rfl
/-- Whatever lies there comes from somewhere. -/
theorem get_overL_some (sel : Nat → Bool) : ∀ (E : List Ent) (i : Nat) (m : CM) (b : Nat) (x : CB), (overL sel i E m).get b = some x →
    m.get b = some x ∨ ∃ j e, E[j]? = some e ∧ sel (i + j) = true ∧ e.lo ≤ b ∧ b < e.hi ∧ (match e.m with | some y => y.get b | none => none) = some x
  | [], _, _, _, _, h => .inl h
  | e0 :: E, i, m, b, x, h => by
    rw [overL_cons] at h
    rcases get_overL_some sel E (i + 1) _ b x h with h1 | ⟨j, e, hj, hs, h2⟩
    · by_cases hs : sel i = true
      · rw [if_pos hs, get_overE] at h1
        by_cases c : e0.lo ≤ b ∧ b < e0.hi
        · rw [if_pos c] at h1; exact .inr ⟨0, e0, rfl, hs, c.1, c.2, h1⟩
        · rw [if_neg c] at h1; exact .inl h1
      · rw [if_neg hs] at h1; exact .inl h1
    · exact .inr ⟨j + 1, e, by simpa using hj, by rw [← Nat.add_assoc, Nat.add_right_comm]; exact hs, h2⟩

/-! ### Values that name only blocks of a set -/
def Inj.cut (ι : Inj) (S : Nat → Bool) : Inj := fun b => if S b then ι b else none
theorem Inj.cut_le (ι : Inj) (S : Nat → Bool) : (ι.cut S).le ι := fun b p h => by
  unfold Inj.cut at h; split at h
  · exact h
  · cases h
def BSc (ι : Inj) : CB → Prop
  | .cells c _ _ => ∀ (i : Nat) (v : Value), c[i]? = some v → ∃ v', tr ι v = some v'
  | .map es => ∀ kv ∈ es, ∃ v', tr ι kv.2 = some v'
  | .loop l => (∀ t, ∃ v', tr ι (l.a.ρ t) = some v') ∧ ∃ p, ι l.defers = some p
  | .dfr => True
  | .siter _ _ => True
theorem BSc.mono {ι ι' : Inj} (h : ι.le ι') {x : CB} (k : BSc ι x) : BSc ι' x := by
  cases x with
  | cells c e o => exact fun i v hv => let ⟨v', h'⟩ := k i v hv; ⟨v', tr_mono h _ _ h'⟩
  | map es => exact fun kv hm => let ⟨v', h'⟩ := k kv hm; ⟨v', tr_mono h _ _ h'⟩
  | loop l => exact ⟨fun t => let ⟨v', h'⟩ := k.1 t; ⟨v', tr_mono h _ _ h'⟩, let ⟨p, hp⟩ := k.2; ⟨p, h _ _ hp⟩⟩
  | dfr => trivial
  | siter _ _ => trivial
theorem tr_det {ι ι' : Inj} (h : ι.le ι') {v a b : Value} (h1 : tr ι v = some a) (h2 : tr ι' v = some b) : a = b := by
  rw [tr_mono h _ _ h1] at h2; exact Option.some.inj h2
theorem BRel.sc {ι : Inj} {p : Pl} {w : World} {x : CB} (h : BRel ι p w x) : BSc ι x := by
  cases x with
  | cells c e o => exact fun i v hv => let ⟨v', ht, _⟩ := h.2.2.1 i v hv; ⟨v', ht⟩
  | map es =>
    obtain ⟨en, clock, _, hm⟩ := h
    intro kv hkv
    obtain ⟨l, hl⟩ : ∃ l, l = en.toList := ⟨_, rfl⟩
    rw [← hl] at hm
    clear hl
    induction hm with
    | nil => cases hkv
    | cons hk hv _ ih =>
      cases hkv with
      | head => exact ⟨_, hv⟩
      | tail _ hm => exact ih hm
  | loop l =>
    obtain ⟨l', _, hr⟩ := h
    exact ⟨fun t => ⟨_, hr.tmps t⟩, let ⟨p, hp, _⟩ := hr.defers; ⟨p, hp⟩⟩
  | dfr => trivial
  | siter _ _ => trivial
theorem BRel.narrow {ι ι' : Inj} (hle : ι.le ι') {p : Pl} {w : World} {x : CB} (h : BRel ι' p w x) (k : BSc ι x) : BRel ι p w x := by
  cases x with
  | cells c e o =>
    obtain ⟨h1, h2, h3, h4⟩ := h
    refine ⟨h1, h2, fun i v hv => ?_, h4⟩
    obtain ⟨v', ht, hc⟩ := h3 i v hv
    obtain ⟨v2, h2'⟩ := k i v hv
    have := tr_det hle h2' ht
    subst this
    exact ⟨v2, h2', hc⟩
  | map es =>
    obtain ⟨en, clock, hw, hm⟩ := h
    refine ⟨en, clock, hw, ?_⟩
    obtain ⟨l, hl⟩ : ∃ l, l = en.toList := ⟨_, rfl⟩
    rw [← hl] at hm ⊢
    clear hl hw
    induction hm with
    | nil => exact .nil
    | cons hk hv _ ih =>
      obtain ⟨v2, h2'⟩ := k _ (List.mem_cons_self ..)
      have := tr_det hle h2' hv
      subst this
      exact .cons hk h2' (ih (fun kv hm => k kv (List.mem_cons_of_mem _ hm)))
  | loop l =>
    obtain ⟨l', hw, hr⟩ := h
    refine ⟨l', hw, hr.state, hr.pending, hr.size, fun t => ?_, hr.params, hr.assign, hr.body, ?_⟩
    · obtain ⟨v2, h2'⟩ := k.1 t
      have := tr_det hle h2' (hr.tmps t)
      subst this; exact h2'
    · obtain ⟨p, hp, e⟩ := hr.defers
      obtain ⟨q, hq⟩ := k.2
      have := hle _ _ hq
      rw [hp] at this; cases this
      exact ⟨p, hq, e⟩
  | dfr => exact h
  | siter _ _ => exact h

/-! ### The plain run -/
def looks (ops : Array Oper) (o : Oper) : List Tmp := o.looksAt ops
def maskA (a : CA) (l : List Tmp) : CA := { a with ρ := fun t => if l.contains t then a.ρ t else undef }

/-- An operation that makes no block and writes none. -/
def still (o : Op) : Bool :=
  match o with
  | .move _ | .assign _ | .pick .. | .build .. | .load .. | .nilCheck _ | .binOp .. | .unOp .. | .convert .. | .makeInterface .. | .makeFunc .. | .slice .. | .fieldAddr .. | .field .. | .indexAddr .. | .index .. | .extract .. | .typeAssert .. => true
  | .call { callee := .builtin .len, .. } | .call { callee := .builtin .min, .. } | .call { callee := .builtin .max, .. } => true
  | _ => false
def isStore (o : Op) : Bool := match o with | .store .. => true | _ => false

def preM (ops : Array Oper) (j : Nat) : Nat := (Region.before ops).getD j 0

/-- A drawn operation that makes no block. -/
def drawOpS (P : Program) (o : Op) (a : CA) (mj : CM) (nx : Nat) (K : Value → Prop) : Prop :=
  match still o with
  | true => opw P o a mj (fun v _ => K v) (fun _ _ => False)
  | false => opw P o a mj (fun v m' => (m'.next = nx ∧ ∀ b, m'.get b = mj.get b) ∧ K v) (fun _ _ => False)
/-- A drawn operation: its value, what it leaves, and the next free number. -/
def drawOpA (P : Program) (o : Op) (a : CA) (mj : CM) (K : Value → Option CM → Nat → Prop) : Prop := opw P o a mj (fun v m' => mj.le m' ∧ K v (some m') m'.next) (fun _ _ => False)
structure dgs (g : Option Bool) (X : (Value → Prop) → Prop) (K : Value → Prop) : Prop where
  h : match g with
  | some true => X K
  | some false => K undef
  | none => False
structure dgo (g : Option Bool) (X : (Value → Option CM → Nat → Prop) → Prop) (K : Value → Option CM → Nat → Prop) (nx : Nat) : Prop where
  h : match g with
  | some true => X K
  | some false => K undef none nx
  | none => False
/-- A store whose block its unordered fellows do not look at: the block, and what it holds then. -/
structure lstw (x : Option CM) (p : Value) (K : Nat → CB → Prop) : Prop where
  h : ∃ m' b o z, x = some m' ∧ p = .pointer (some ⟨b, o, none⟩) ∧ m'.get b = some z ∧ K b z
def drawOpL (P : Program) (o : Op) (a : CA) (mj : CM) (K : Nat → CB → Prop) : Prop := match o with | .store t x y => lstw (cstore P t (a.ev x) (a.ev y) mj) (a.ev x) K | _ => False
def lookN : List (Nat × Nat) → Nat → Option Nat
  | [], _ => none
  | (j, i) :: l, k => match Nat.beq j k with | true => some i | false => lookN l k
/-- An operation whose value does not hang on the memory. -/
def memFree (o : Op) : Bool :=
  match o with
  | .move _ | .assign _ | .pick .. | .build .. | .nilCheck _ | .binOp .. | .unOp .. | .convert .. | .makeInterface .. | .makeFunc .. | .fieldAddr .. | .field .. | .indexAddr .. | .index .. | .extract .. | .typeAssert .. => true
  | _ => false
/-- What a load looks at. -/
def rdTmp (o : Op) : Option Tmp := match o with | .load _ (.tmp u) => some u | _ => none
def unord (ops : Array Oper) (j k : Nat) : Bool := !(Nat.beq k j || (preM ops k).testBit j || (preM ops j).testBit k)
/-- The temporaries that the loads ahead of the store j, and unordered with it, look at. -/
def lateT (ops : Array Oper) (j : Nat) : List Tmp := (List.range j).filterMap fun k => match unord ops j k with | true => (ops[k]?).bind (fun o => rdTmp o.op) | false => none
/-- Pointers to other blocks. -/
def apartL : List Value → Nat → Prop
  | [], _ => True
  | v :: l, b => (match v with | .pointer (some ⟨c, _, none⟩) => c ≠ b | .tuple ⟨[]⟩ => True | _ => False) ∧ apartL l b
/-- May the store j be late, its block made by operation i? Or, where i is j, its block an old one? -/
def lateOk (ops : Array Oper) (i j : Nat) : Bool :=
  match Nat.beq i j with
  | true => (List.range ops.size).all fun k => !unord ops j k || (match ops[k]? with
    | some o => memFree o.op || (Nat.blt k j && (match rdTmp o.op with | some u => (List.range j).all fun i => Nat.blt i k || (ops[i]?).bind (·.dst) != some u | none => false))
    | none => false)
  | false => (preM ops j).testBit i && (List.range ops.size).all fun k => !(preM ops k).testBit i || k == j || (preM ops k).testBit j || (preM ops j).testBit k
/-- Operation by operation in the text's order, up to the n-th. -/
def drawGo (P : Program) (ops : Array Oper) (m0 : CM) (LI : List (Nat × Nat)) (K : CA → CM → Prop) : Nat → List Ent → List (Nat × Nat × CB) → CA → Nat → Prop
  | 0, E, W, a, nx => K a (memL m0 E W (fun _ => true) nx)
  | k + 1, E, W, a, nx =>
    match ops[E.length]? with
    | none => False
    | some o =>
      match lookN LI E.length with
      | some i =>
        match o.guard with
        | none => drawOpL P o.op (maskA a (looks ops o)) (memL m0 E W (fun i => Nat.testBit (preM ops E.length) i) nx) (fun b x => (match Nat.beq i E.length with | true => b < m0.next ∧ apartL ((lateT ops E.length).map a.ρ) b | false => ∃ e, E[i]? = some e ∧ e.lo ≤ b ∧ b < e.hi) ∧ (∀ t ∈ W, t.2.1 ≠ b) ∧
            drawGo P ops m0 LI K k (E ++ [⟨undef, nx, none⟩]) (W ++ [(E.length, b, x)]) (a.put o.dst undef) nx)
        | some _ => False
      | none =>
      match still o.op || isStore o.op with
      | true =>
        match o.guard with
        | none => drawOpS P o.op (maskA a (looks ops o)) (memL m0 E W (fun i => Nat.testBit (preM ops E.length) i) nx) nx (fun v => drawGo P ops m0 LI K k (E ++ [⟨v, nx, none⟩]) W (a.put o.dst v) nx)
        | some (j, want) =>
          match (ops[j]?).bind (·.dst) with
          | some d => dgs (gb (a.ρ d) want) (fun K' => drawOpS P o.op (maskA a (looks ops o)) (memL m0 E W (fun i => Nat.testBit (preM ops E.length) i) nx) nx K') (fun v => drawGo P ops m0 LI K k (E ++ [⟨v, nx, none⟩]) W (a.put o.dst v) nx)
          | none => False
      | false =>
        match o.guard with
        | none => drawOpA P o.op (maskA a (looks ops o)) (memL m0 E W (fun i => Nat.testBit (preM ops E.length) i) nx) (fun v eo nx' => drawGo P ops m0 LI K k (E ++ [⟨v, nx, eo⟩]) W (a.put o.dst v) nx')
        | some (j, want) =>
          match (ops[j]?).bind (·.dst) with
          | some d => dgo (gb (a.ρ d) want) (fun K' => drawOpA P o.op (maskA a (looks ops o)) (memL m0 E W (fun i => Nat.testBit (preM ops E.length) i) nx) K') (fun v eo nx' => drawGo P ops m0 LI K k (E ++ [⟨v, nx, eo⟩]) W (a.put o.dst v) nx') nx
          | none => False

/-- What is asked of the operations' order. -/
def drawOk (ops : Array Oper) (N1 : Nat) : Bool :=
  (N1 ≤ ops.size) && (List.range ops.size).all fun j =>
    match ops[j]? with
    | none => false
    | some o =>
      (o.after.toList.all fun e => !Region.binds .any e || e.on < j) &&
      (preM ops j == o.after.toList.foldl (fun s e => if Region.binds .any e then s ||| 2 ^ e.on ||| preM ops e.on else s) 0) &&
      ((List.range j).all fun i => !(preM ops j).testBit i || (preM ops i &&& preM ops j == preM ops i)) &&
      (preM ops j < 2 ^ j) &&
      (j < N1 || preM ops j == 2 ^ j - 1) &&
      (match o.op with | .select .. | .defer _ | .go _ => false | _ => true) && opOk o.op &&
      (match o.dst with | none => true | some d => (List.range ops.size).all fun k => k == j || (ops[k]?).bind (·.dst) != some d) &&
      ((looks ops o).all fun u => (List.range ops.size).all fun k => k == j || (ops[k]?).bind (·.dst) != some u || (preM ops k).testBit j || (preM ops j).testBit k)
end Go.Proofs.Ytjkfleibnojjaaa
end
