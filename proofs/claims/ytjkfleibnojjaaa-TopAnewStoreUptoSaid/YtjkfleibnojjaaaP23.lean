/- Part 23 of 23 of the proof that the law TopAnewStore returns true and leaves its argument as it read before, for every input that the bounded statement admits (what it reads is of bulk at most 1048576). -/
import Derived.WalkKit
import Derived.ProofKit
import Derived.JoinedCond
import Derived.Test.YtjkfleibnojjaaaRows
import Derived.Test.YtjkfleibnojjaaaP05
import Derived.Test.YtjkfleibnojjaaaP13
import Derived.Test.YtjkfleibnojjaaaP22
section
open Go Go.Proofs Go.Proofs.Ytjkfleibnojjaaa
set_option maxRecDepth 100000
namespace Go.Proofs.Ytjkfleibnojjaaa.T
theorem top3 {l : List Value} {k : Nat} {m : CM} (hm : Clean m) (hw : WTL (keepAll m) tysT k l) (hk : k ≤ lim) : callw Try.prog 3 [.agg ⟨l⟩] m (fun v m' => v = .bool true ∧ m.le m') (fun _ _ => False) := by
  apply c3
  show sTop Try.prog 29 32 4 5 28 29 6 [11, 14, 16, 21, 23, 25] (RK _ _) (.agg ⟨l⟩) m
  refine top_ok (I := 3) (Str := 9) (T0 := 27) (T1 := 30) (tys := tysT) (k := k) heapT ze32 ag32 sz32 ag29 sz29 (fun h => c28 h) (fun h => c5 h) (fun hp hw hB hK => all4 hp hw hB hK) awake29 hm hw hk ?_ fun m' hle => ⟨rfl, hle⟩
  intro g hg
  simp only [List.mem_cons, List.not_mem_nil, or_false] at hg
  rcases hg with rfl | rfl | rfl | rfl | rfl | rfl | rfl
  · exact clo6 hk
  · exact clo11 hk
  · exact clo14 hk
  · exact clo16 hk
  · exact clo21 hk
  · exact clo23 hk
  · exact clo25 hk
end Go.Proofs.Ytjkfleibnojjaaa.T
end

section
namespace Go.Proofs.Ytjkfleibnojjaaa
open Go Go.ChangeShapes Go.WideShapes Go.ChangeAt Go.RowKit
section
variable {H : Type} {enc : TypeId × Value → H} {P : Program}
theorem cells?_keep {W W' : World} (hk : ∀ (b : Nat) (o : Obj), W.heap[b]? = some o → W'.heap[b]? = some o) {a : Addr} {n : Nat} {cs : List Value} (h : W.cells? 0 a n = some cs) : W'.cells? 0 a n = some cs := by
  obtain ⟨h1, h2, h3⟩ := World.cells?_some h
  refine World.cells?_of_each h1 h2 fun i hi => ?_
  have h4 := h3 i hi
  have hy : cs[i]? = some (cs[i]'(by omega)) := List.getElem?_eq_getElem (by omega)
  rw [hy] at h4 ⊢
  unfold World.cell? at h4 ⊢
  split at h4
  · rename_i hb
    rw [hk _ _ hb]; exact h4
  · cases h4
/-- The reading again, in a later world. -/
theorem reread {W W' : World} (hk : ∀ (b : Nat) (o : Obj), W.heap[b]? = some o → W'.heap[b]? = some o) {sp : Nat → Bool} : ∀ (fuel : Nat) (t : TypeId) (tys : List CT) (cs : List Value) (x : DataW H × List MemPlace), TyC P t tys →
    DataW.trod enc P W 0 (fun _ => true) true fuel t cs = some x → (∀ p ∈ x.2, sp p.block = true) → DataW.trod enc P W' 0 sp true fuel t cs = some x
  | fuel, t, _, cs, x, .i hu, h, hp => by
    cases fuel with
    | zero => simp [DataW.trod] at h
    | succ n =>
      unfold DataW.trod at h ⊢
      rw [hu] at h ⊢
      split at h <;> simp_all
  | fuel, t, _, cs, x, .s hu, h, hp => by
    cases fuel with
    | zero => simp [DataW.trod] at h
    | succ n =>
      unfold DataW.trod at h ⊢
      rw [hu] at h ⊢
      split at h <;> simp_all
  | fuel, t, _, cs, x, .b hu, h, hp => by
    cases fuel with
    | zero => simp [DataW.trod] at h
    | succ n =>
      unfold DataW.trod at h ⊢
      rw [hu] at h ⊢
      split at h <;> simp_all
  | fuel, t, _, cs, x, .st (fs := fs) hu hc hf, h, hp => by
    obtain ⟨xs, n, rfl, rfl, hl, hlen, hx⟩ := DataW.trod_struct hu h
    refine trod_struct_mk hu hl (mapM_some_of_get _ _ (by simp [hlen]) fun i f hi => ?_)
    have hi' : fs[i]? = some f := by simpa using hi
    have h1 := hx i f hi'
    have hil : i < xs.length := by rw [hlen]; exact (Array.getElem?_eq_some_iff.1 hi').1
    have hy : xs[i]? = some (xs[i]'hil) := List.getElem?_eq_getElem hil
    rw [hy] at h1 ⊢
    obtain ⟨ts, ht⟩ : ∃ ts, TyC P f.type ts := by
      have : ∀ (l : List Field) (o : Nat) (tys : List CT), TyF P l o tys → ∀ (i : Nat) (f : Field), l[i]? = some f → ∃ ts, TyC P f.type ts := by
        intro l
        induction l with
        | nil => intro o tys _ i f hi; simp at hi
        | cons g l ih =>
          intro o tys hf i f hi
          cases hf with
          | cons _ _ ht hr =>
            cases i with
            | zero => simp at hi; subst hi; exact ⟨_, ht⟩
            | succ i => exact ih _ _ hr i f (by simpa using hi)
      exact this _ _ _ hf i f hi
    exact reread hk n f.type ts _ _ ht h1 fun p hpp => hp p (List.mem_flatMap.2 ⟨_, List.getElem_mem hil, hpp⟩)
  | fuel, t, _, cs, x, .ar (n := N) (e := e) (tys := tys) hu hc hc' he, h, hp => by
    obtain ⟨xs, n, rfl, rfl, hl, hlen, hx⟩ := DataW.trod_array hu h
    have hm : (List.range N).mapM (fun i => DataW.trod enc P W' 0 sp true n e ((cs.drop (i * P.cellsOf e)).take (P.cellsOf e))) = some xs := by
      refine mapM_some_of_get _ _ (by simp [hlen]) fun i j hi => ?_
      have hiN : i < N := by
        have := (List.getElem?_eq_some_iff.1 hi).1; simpa using this
      have hij : j = i := by simpa [hiN] using hi.symm
      subst hij
      have h1 := hx j hiN
      have hil : j < xs.length := by omega
      have hy : xs[j]? = some (xs[j]'hil) := List.getElem?_eq_getElem hil
      rw [hy] at h1 ⊢
      exact reread hk n e tys _ _ he h1 fun p hpp => hp p (List.mem_flatMap.2 ⟨_, List.getElem_mem hil, hpp⟩)
    unfold DataW.trod
    rw [hu]
    split <;> simp_all
  | fuel, t, _, cs, x, .sl (e := e) (tys := tys) hu hc hp0 he, h, hp => by
    rcases DataW.trod_slice hu h with ⟨rfl, rfl⟩ | ⟨a, len, cap, elems, rest, n, rfl, rfl, rfl, _, hlc, hcm, hel, hE, hR, _⟩
    · cases fuel with
      | zero => simp [DataW.trod] at h
      | succ n => simp [DataW.trod, hu]
    · obtain ⟨hrl, hR⟩ := hR rfl
      have each : ∀ i y, (elems ++ rest)[i]? = some y → (W.cells? 0 (a.add (i * P.cellsOf e)) (P.cellsOf e)).bind (DataW.trod enc P W 0 (fun _ => true) true n e) = some y →
          (W'.cells? 0 (a.add (i * P.cellsOf e)) (P.cellsOf e)).bind (DataW.trod enc P W' 0 sp true n e) = some y := by
        intro i y hy h1
        rw [Option.bind_eq_some_iff] at h1 ⊢
        obtain ⟨csi, h2, h3⟩ := h1
        refine ⟨csi, cells?_keep hk h2, reread hk n e tys _ _ he h3 fun p hpp => hp p ?_⟩
        exact List.mem_append_right _ (List.mem_flatMap.2 ⟨y, List.mem_of_getElem? hy, hpp⟩)
      have hme : (List.range len).mapM (fun i => (W'.cells? 0 (a.add (i * P.cellsOf e)) (P.cellsOf e)).bind (DataW.trod enc P W' 0 sp true n e)) = some elems := by
        refine mapM_some_of_get _ _ (by simp [hel]) fun i j hi => ?_
        have hiN : i < len := by
          have := (List.getElem?_eq_some_iff.1 hi).1; simpa using this
        have hij : j = i := by simpa [hiN] using hi.symm
        subst hij
        have hil : j < elems.length := by omega
        have hy : elems[j]? = some (elems[j]'hil) := List.getElem?_eq_getElem hil
        have h1 := hE j hiN
        rw [hy] at h1 ⊢
        exact each j _ (by rw [List.getElem?_append_left hil]; exact hy) h1
      have hmr : (List.range (cap - len)).mapM (fun j => (W'.cells? 0 (a.add ((len + j) * P.cellsOf e)) (P.cellsOf e)).bind (DataW.trod enc P W' 0 sp true n e)) = some rest := by
        refine mapM_some_of_get _ _ (by simp [hrl]) fun i j hi => ?_
        have hiN : i < cap - len := by
          have := (List.getElem?_eq_some_iff.1 hi).1; simpa using this
        have hij : j = i := by simpa [hiN] using hi.symm
        subst hij
        have hil : j < rest.length := by omega
        have hy : rest[j]? = some (rest[j]'hil) := List.getElem?_eq_getElem hil
        have h1 := hR j hiN
        rw [hy] at h1 ⊢
        exact each (len + j) _ (by rw [List.getElem?_append_right (by omega), hel, Nat.add_sub_cancel_left]; exact hy) h1
      have hspare : (if sp a.block = true then (List.range (cap - len)).mapM (fun j => (W'.cells? 0 (a.add ((len + j) * P.cellsOf e)) (P.cellsOf e)).bind (DataW.trod enc P W' 0 sp true n e)) else some []) = some rest := by
        by_cases hs : sp a.block = true
        · rw [if_pos hs]; exact hmr
        · rw [if_neg hs]
          by_cases hr0 : rest = []
          · rw [hr0]
          · exfalso
            apply hs
            have : MemPlace.cell a.block (a.off + 0) ∈ MemPlace.row a ((elems.length + rest.length) * P.cellsOf e) := by
              unfold MemPlace.row
              refine List.mem_map.2 ⟨0, ?_, rfl⟩
              have h1 : 0 < rest.length := List.length_pos_iff.2 hr0
              have h2 : 0 < (elems.length + rest.length) * P.cellsOf e := Nat.mul_pos (by omega) (by rw [hc]; exact hp0)
              simpa using h2
            exact hp _ (List.mem_append_left _ this)
      unfold DataW.trod
      rw [hu]
      simp only [Nat.zero_le, true_and]
      rw [if_pos ⟨hlc, hcm⟩, hme, Option.bind_some, hspare]
      rfl
  termination_by fuel => fuel

theorem post_of_same2 {f : Func} {s : ChangeSpec} {apart fresh handsOn again : Bool} {W W' : World} {args : Array Value} {v : Value} {ds gs : List (DataW H)} {before pa pv : List MemPlace}
    (hW : DataW.Whole enc P f.params.toList s.vars apart W args.toList ds gs before)
    (hres : ∀ (b : Nat) (sp : Nat → Bool) (hd : Bool), DataW.TrodAll enc P W' b sp hd f.resultTypes.toList (v.resultList f.resultTypes.size) (s.fn H (ds ++ gs)).results [])
    (hargs : ∀ sp : Nat → Bool, (∀ p ∈ before, sp p.block = true) → DataW.TrodAll enc P W' 0 sp true f.params.toList args.toList (s.fn H (ds ++ gs)).args pa)
    (hvars : ∀ sp : Nat → Bool, (∀ p ∈ before, sp p.block = true) → DataW.TrodVars enc P W' sp s.vars (s.fn H (ds ++ gs)).vars pv)
    (hps : before = pa ++ pv) (hk : W.keptBut W' (· ∈ before)) (hfz : ∀ b off, MemPlace.cell b off ∈ before → W'.frozen? ⟨b, off, none⟩ = W.frozen? ⟨b, off, none⟩)
    (hok : ∀ (j : Nat) (t : TypeId) (r : Value), f.resultTypes[j]? = some t → (v.resultList f.resultTypes.size)[j]? = some r → Value.okWide P W' .any 0 t r) :
    s.post enc P f apart fresh handsOn again W args v W' := by
  have hold : ∀ p ∈ before, (fun b => decide (b < W.heap.size)) p.block = true := fun p hp => by simpa using hW.lt p hp
  refine ⟨ds, gs, before, [], pa, pv, hW, hres _ _ _, hargs _ hold, hvars _ hold, World.keptBut_mono (fun p hp => ⟨hp, ?_⟩) hk, fun _ => ?_⟩
  · rw [hps, List.mem_append] at hp
    exact Or.inr hp
  · obtain ⟨_, _, _, _, _, hz, hn⟩ := hW
    refine ⟨hok, _, _, ([] ++ pa) ++ pv, ⟨[] ++ pa, pv, trodAll_append (hargs _ (fun _ _ => rfl)) (hres _ _ _), hvars _ (fun _ _ => rfl), rfl, ?_, ?_⟩, ?_⟩
    · intro b off hp
      have hp' : MemPlace.cell b off ∈ before := by rw [hps]; simpa using hp
      rw [hfz b off hp']
      exact hz b off hp'
    · intro ha
      have := hn ha
      rw [hps] at this
      simpa using this
    · intro p hp _
      rw [hps]
      simpa using hp

/-- THE LAW, FROM ITS PLAIN RUN. -/
theorem law_contract {f : FuncId} {fn : Func} {X B : TypeId} {tys : List CT} (hfp : fn.params = #[X]) (hfr : fn.resultTypes = #[B]) (huB : P.underlying B = some .bool) (hag : aggB P X = some true) (hty : TyC P X tys) {s : ChangeSpec} (hsv : s.vars = [])
    (hsf : ∀ d : DataW H, s.fn H [d] = { results := [.lit (.bool true)], args := [d] }) {bk : DataW H → Nat} (hbk : Weighs bk)
    (hrun : ∀ (l : List Value) (k : Nat) (m : CM), Clean m → WTL (keepAll m) tys k l → k ≤ lim → callw P f [.agg ⟨l⟩] m (fun v m' => v = .bool true ∧ m.le m') (fun _ _ => False))
    (W : World) (hz : 0 < W.heap.size) (args : Array Value) (ds gs : List (DataW H)) (before : List MemPlace)
    (hval : ∀ (j : Nat) t v, fn.params[j]? = some t → args[j]? = some v → Value.okWide P W .any 0 t v)
    (hW : DataW.Whole enc P fn.params.toList s.vars false W args.toList ds gs before) (hsm : ∀ d ∈ ds, bk d ≤ lim) :
    Calls P f args W fun e W' => ∃ v, e = .returned v ∧ s.post enc P fn false true false false W args v W' := by
  have hW' := hW
  obtain ⟨p, q, hA0, hV, rfl, hfz, hnd⟩ := hW
  have hA : DataW.TrodAll enc P W 0 (fun _ => true) true fn.params.toList args.toList ds p := hA0
  rw [hfp] at hA
  obtain ⟨v0, vs0, d0, ds0, p0, q0, hargs, rfl, rfl, h0, r0⟩ := trodAll_cons hA
  obtain ⟨rfl, rfl, rfl⟩ := trodAll_nil r0
  obtain rfl : args = #[v0] := by cases args; simp_all
  rw [hsv] at hV
  obtain ⟨rfl, rfl⟩ := trodVars_none hV
  have hv0 := hval 0 X v0 (by rw [hfp]; rfl) rfl
  obtain ⟨cs, rfl⟩ : ∃ cs, v0 = .agg cs := by
    unfold Value.okWide at hv0
    unfold aggB at hag
    split at hag
    · rename_i h1; rw [h1] at hv0; obtain ⟨cs, h2, _⟩ := hv0; exact ⟨cs, h2⟩
    · rename_i h1; rw [h1] at hv0; obtain ⟨cs, h2, _⟩ := hv0; exact ⟨cs, h2⟩
    · cases hag
    · cases hag
  obtain ⟨fuel, ht⟩ := h0
  have hgn : ∀ b x, (⟨.nil, 0⟩ : CM).get b ≠ some x := fun b x h => by simp [CM.get, T.get] at h
  have hrl : Rel (fun _ => none) ⟨.nil, 0⟩ W := by
    refine ⟨fun _ _ => rfl, fun b p h => (by cases h), fun b x h => (hgn b x h).elim, fun b b' x x' p p' h => (hgn b x h).elim⟩
  have hbs : BS W ⟨.nil, 0⟩ (fun _ => none) := ⟨hrl, fun b x h => (hgn b x h).elim, fun b x h => (hgn b x h).elim⟩
  obtain ⟨m, ι, l, k, _, _, hbs', htr, hw, hk⟩ := build hz hbk (fun _ => rfl) fuel X tys _ _ hty ht ⟨.nil, 0⟩ (fun _ => none) hbs
  obtain ⟨e, m', hc, hend⟩ := hrun l k m hbs'.cl hw (Nat.le_trans hk (hsm d0 (by simp)))
  have hcs : (Value.agg cs).cells.toList = cs.toList := rfl
  rw [hcs] at htr
  have htr' : trL ι [.agg ⟨l⟩] = some [.agg cs] := by
    simp only [trL, tr, htr, Option.map_some]
  have hcalls := callsIn_wide.1 (hc.2 ι W [.agg cs] hbs'.rel htr')
  refine hcalls.mono ?_
  rintro e' W' ⟨ι', hle, hr', he, hf⟩
  cases e with
  | pan c => exact hend.elim
  | ret v =>
  obtain ⟨rfl, _⟩ := hend
  cases e' with
  | panicked c => exact he.elim
  | outgrown => exact he.elim
  | returned v' =>
  have hv' : v' = .bool true := tr_bool he
  subst hv'
  have hkeep : ∀ b, b < W.heap.size → W'.heap[b]? = W.heap[b]? := fun b hb => hf.keep b hb fun b' x p hx ho => by rw [hbs'.ro _ _ hx] at ho; cases ho
  have hkeep2 : ∀ (b : Nat) (o : Obj), W.heap[b]? = some o → W'.heap[b]? = some o := fun b o ho => by rw [hkeep b (Array.getElem?_eq_some_iff.1 ho).1]; exact ho
  have hspec := hsf d0
  refine ⟨_, rfl, ?_⟩
  refine post_of_same2 (pa := p0) (pv := []) hW' ?_ ?_ ?_ (by simp) ?_ ?_ ?_
  · intro b sp hd
    simp only [List.append_nil, hspec, hfr]
    exact trodAll_cons_mk (shut_bool huB _) trodAll_mk0
  · intro sp hsp
    simp only [List.append_nil, hspec, hfp]
    rw [← List.append_nil p0]
    refine trodAll_cons_mk (p := p0) (p' := []) ⟨fuel, reread hkeep2 fuel X tys _ _ hty ht fun p hp => hsp p (by simpa using hp)⟩ trodAll_mk0
  · intro sp hsp
    simp only [List.append_nil, hspec, hsv]
    rfl
  · refine ⟨hf.os, hf.output, fun i hi => ?_⟩
    rw [hkeep i hi]
    split <;> simp_all
  · intro b off hb
    have hlt : b < W.heap.size := hW'.lt _ hb
    unfold World.frozen?
    simp only []
    rw [hkeep b hlt]
  · refine ok_one (t := B) hfr rfl (okWide_bool_mk huB _)
end
end Go.Proofs.Ytjkfleibnojjaaa
end

section
namespace Go.Proofs.Ytjkfleibnojjaaa
open Go Go.ChangeShapes
section
variable {H : Type} {enc : TypeId × Value → H}
/-- As the kit's builder for a bounded statement, and the memory is known to hold a block. -/
theorem handed_pos {a : Assume} {C : Checked} {os : Os} {f : FuncId} {fn : Func} {s : OpenSpec} {k : (H : Type) → List (DataW H) → Bool} (hk : s.cond = some k) {F : Stop.Interp} {conds : List PathCond} {apart fresh handsOn again : Bool}
    (own : ownKnob C.prog.godebug = none) (started : os.Started) (noInit : C.prog.inits.idxOf? f = none) (hfn : C.prog.funcs[f]? = some fn) (hpos : ∃ j, C.prog.globals.size ≤ j ∧ j < (begin C.prog (fun _ _ => 0) default).world.heap.size)
    (witness : ∃ (w : World) (tape : Tape) (i : Input), w.os = os ∧ (w.forCall tape i).Shaped C.prog ∧ i.vars = [] ∧ Input.okWide C.prog (w.forCall tape i) .any w.heap.size f i ∧
      s.pre6 enc C.prog fn conds apart (w.forCall tape i).memory i.args ∧ a.holds C.prog (lone (Frame.enter C.prog f i.args .normal) [] (w.forCall tape i)))
    (contract : ∀ (W : World) (base : Nat) (args : Array Value) (ds gs : List (DataW H)) (before : List MemPlace), 0 < W.heap.size →
      (∀ (j : Nat) t v, fn.params[j]? = some t → args[j]? = some v → Value.okWide C.prog W .any base t v) →
      DataW.Whole enc C.prog fn.params.toList s.vars apart W args.toList ds gs before → k H (ds ++ gs) = true →
      Calls C.prog f args W fun e W' => ∃ v, e = .returned v ∧ (s.at F).post enc C.prog fn apart fresh handsOn again W args v W') :
    ReturnsInHanded a C os f .any (s.pre6 enc C.prog fn conds apart) ((s.at F).post enc C.prog fn apart fresh handsOn again) := by
  refine returnsInHanded_of_calls own started noInit witness ?_
  intro w tape i _ hsh _ hok hpre hholds
  obtain ⟨_, _, _, fn', hfn', _, _, _, _, hval⟩ := hok
  have e : fn' = fn := Option.some.inj (hfn'.symm.trans hfn)
  subst e
  obtain ⟨j, hj1, hj2⟩ := hpos
  obtain ⟨o, _, ho, _⟩ := hsh.2 j hj1 hj2
  have hz : 0 < (w.forCall tape i).heap.size := Nat.lt_of_le_of_lt (Nat.zero_le _) (Array.getElem?_eq_some_iff.1 ho).1
  obtain ⟨ds, gs, before, hw, hc, hkk⟩ := (OpenSpec.pre_some hk conds apart _ _).1 hpre.1
  have hw' := DataW.Whole.of_heap (w' := w.forCall tape i) (by rfl) hw
  refine (contract (w.forCall tape i) w.heap.size i.args ds gs before hz hval hw' hkk).mono fun e W' ⟨v, he, hp⟩ => ?_
  subst he
  exact ChangeSpec.post_blind hp
end
end Go.Proofs.Ytjkfleibnojjaaa
end

section
open Go Go.Proofs Go.Proofs.Ytjkfleibnojjaaa
set_option maxRecDepth 100000
namespace Go.Proofs.Ytjkfleibnojjaaa
open Go.Proofs.Ytjkfleibnojjaaa.T
theorem cc3 : Try.prog.cellsOf 3 = 1 := by kernel_rfl
theorem cc23 : Try.prog.cellsOf 23 = 4 := by kernel_rfl
theorem cc9 : Try.prog.cellsOf 9 = 1 := by kernel_rfl
theorem cc72 : Try.prog.cellsOf 72 = 2 := by kernel_rfl
theorem cc64 : Try.prog.cellsOf 64 = 1 := by kernel_rfl
theorem cc66 : Try.prog.cellsOf 66 = 3 := by kernel_rfl
theorem cc24 : Try.prog.cellsOf 24 = 1 := by kernel_rfl
theorem cc26 : Try.prog.cellsOf 26 = 6 := by kernel_rfl
theorem cc27 : Try.prog.cellsOf 27 = 1 := by kernel_rfl
theorem cc29 : Try.prog.cellsOf 29 = 10 := by kernel_rfl
theorem tc3 : TyC Try.prog 3 [.i] := .i Try.underlying3
theorem tc23 : TyC Try.prog 23 [.i, .i, .i, .i] := .st Try.underlying23 cc23 (.cons (tys := [.i]) (ts := [.i, .i, .i]) rfl cc3 tc3 (.cons (tys := [.i]) (ts := [.i, .i]) rfl cc3 tc3 (.cons (tys := [.i]) (ts := [.i]) rfl cc3 tc3 (.cons (tys := [.i]) (ts := []) rfl cc3 tc3 .nil))))
theorem tc9 : TyC Try.prog 9 [.s] := .s Try.underlying9
theorem tc72 : TyC Try.prog 72 [.i, .i] := .st Try.underlying72 cc72 (.cons (tys := [.i]) (ts := [.i]) rfl cc3 tc3 (.cons (tys := [.i]) (ts := []) rfl cc3 tc3 .nil))
theorem tc64 : TyC Try.prog 64 [.sl [.i, .i]] := .sl Try.underlying64 cc72 (by decide) tc72
theorem tc66 : TyC Try.prog 66 [.s, .i, .sl [.i, .i]] := .st Try.underlying66 cc66 (.cons (tys := [.s]) (ts := [.i, .sl [.i, .i]]) rfl cc9 tc9 (.cons (tys := [.i]) (ts := [.sl [.i, .i]]) rfl cc3 tc3 (.cons (tys := [.sl [.i, .i]]) (ts := []) rfl cc64 tc64 .nil)))
theorem tc24 : TyC Try.prog 24 [.sl [.s, .i, .sl [.i, .i]]] := .sl Try.underlying24 cc66 (by decide) tc66
theorem tc26 : TyC Try.prog 26 [.i, .i, .i, .i, .i, .sl [.s, .i, .sl [.i, .i]]] := .st Try.underlying26 cc26 (.cons (tys := [.i, .i, .i, .i]) (ts := [.i, .sl [.s, .i, .sl [.i, .i]]]) rfl cc23 tc23 (.cons (tys := [.i]) (ts := [.sl [.s, .i, .sl [.i, .i]]]) rfl cc3 tc3 (.cons (tys := [.sl [.s, .i, .sl [.i, .i]]]) (ts := []) rfl cc24 tc24 .nil)))
theorem tc27 : TyC Try.prog 27 [.sl [.i]] := .sl Try.underlying27 cc3 (by decide) tc3
theorem tc29 : TyC Try.prog 29 tysT := .st Try.underlying29 cc29 (.cons (tys := [.i, .i, .i, .i, .i, .sl [.s, .i, .sl [.i, .i]]]) (ts := [.sl [.i], .sl [.i], .i, .i]) rfl cc26 tc26 (.cons (tys := [.sl [.i]]) (ts := [.sl [.i], .i, .i]) rfl cc27 tc27 (.cons (tys := [.sl [.i]]) (ts := [.i, .i]) rfl cc27 tc27 (.cons (tys := [.i]) (ts := [.i]) rfl cc3 tc3 (.cons (tys := [.i]) (ts := []) rfl cc3 tc3 .nil)))))
/-! ### The bound -/
theorem all_sum {H : Type} (l : List (DataW H)) : Rows.uptoBulkAll l = (l.map Rows.uptoBulk).sum := by
  induction l with
  | nil => simp [Rows.uptoBulkAll]
  | cons d l ih => simp [Rows.uptoBulkAll, ih]
theorem weighs {H : Type} : Weighs (H := H) Rows.uptoBulk :=
  ⟨fun l => by cases l <;> simp [Rows.uptoBulk], by simp [Rows.uptoBulk], fun l r => by simp only [Rows.uptoBulk, all_sum]; omega, fun l => by simp only [Rows.uptoBulk, all_sum]; omega⟩
theorem part_le {H : Type} {d : DataW H} {l : List (DataW H)} (h : d ∈ l) : Rows.uptoBulk d ≤ Rows.uptoBulkAll l := by
  induction l with
  | nil => cases h
  | cons x r ih =>
    simp only [Rows.uptoBulkAll]
    cases List.mem_cons.1 h with
    | inl e => subst e; omega
    | inr e => have := ih e; omega
theorem small_le {H : Type} {ds gs : List (DataW H)} (hk : Rows.uptoSmall H (ds ++ gs) = true) : ∀ d ∈ ds, Rows.uptoBulk d ≤ lim := fun d hd => by
  have h1 : Rows.uptoBulkAll (ds ++ gs) ≤ 1048576 := of_decide_eq_true hk
  have h2 := part_le (List.mem_append_left gs hd)
  have h3 : (1048576 : Nat) ≤ lim := by decide
  omega
theorem own : ownKnob Try.prog.godebug = none := by kernel_rfl
theorem some_block : Nat.blt 0 (begin Try.prog (fun _ _ => 0) default).world.heap.size = true := by kernel_rfl
theorem no_globals : Try.prog.globals.size = 0 := by kernel_rfl
theorem lifted (os : Os) (started : os.Started) (H : Type) (enc : TypeId × Value → H) (F : Stop.Interp) :
    ReturnsInHanded {} Try.checked os 3 .any ((Rows.OpenSpec.upto Rows.topAnewStoreSpec).pre6 enc Try.prog Try.f3 Rows.topAnewStoreUptoRow.domain false) (((Rows.OpenSpec.upto Rows.topAnewStoreSpec).at F).post enc Try.prog Try.f3 false true false false) := by
  refine handed_pos (C := Try.checked) (s := Rows.OpenSpec.upto Rows.topAnewStoreSpec) (k := Rows.uptoSmall) rfl own started (by kernel_rfl) Try.func3
    ⟨0, Nat.le_of_eq no_globals, Nat.le_of_ble_eq_true some_block⟩
    (OpenSpec.witness (enc := enc) (C := Try.checked) (s := Rows.OpenSpec.upto Rows.topAnewStoreSpec) (k := Rows.uptoSmall) rfl false
      ⟨#[], #[.agg #[.int .i64 0, .int .i64 0, .int .i64 0, .int .i64 0, .int .i64 0, .slice none 0 0, .slice none 0 0, .slice none 0 0, .int .i64 0, .int .i64 0]], []⟩ 8 (by kernel_rfl) (by kernel_rfl) (by kernel_rfl)
      (x := ([.agg [.agg [.agg [.lit (.int .i64 0), .lit (.int .i64 0), .lit (.int .i64 0), .lit (.int .i64 0)], .lit (.int .i64 0), .nil], .nil, .nil, .lit (.int .i64 0), .lit (.int .i64 0)]], [], [])) (by kernel_rfl) rfl (by kernel_rfl)) ?_
  intro W base args ds gs before hz hval hW hk
  exact law_contract (fn := Try.f3) (bk := Rows.uptoBulk) (s := Rows.topAnewStoreSpec) Try.params3 (by kernel_rfl) Try.underlying4 ag29 tc29 rfl (fun _ => rfl) weighs (fun l k m hm hw hk => top3 hm hw hk) W hz args ds gs before hval hW (small_le hk)
theorem over : Rows.topAnewStoreUptoRow.holds Try.pinned (Rows.OpenSpec.upto Rows.topAnewStoreSpec) :=
  OpenClaim.holds_of_cond 3 Try.f3 rfl rfl rfl rfl rfl rfl rfl ⟨rfl, rfl, rfl, rfl, rfl⟩ rfl rfl rfl rfl rfl (by kernel_rfl) Try.func3 (by kernel_rfl)
    (of_decide_eq_true (by kernel_rfl)) (by unfold Func.isWrapper; first | (rw [if_pos (by decide +kernel)]; kernel_rfl) | (rw [if_neg (by decide +kernel)]; exact ⟨rfl, rfl⟩))
    (fun os started H enc _ F => lifted os started H enc F)
theorem proved : Rows.TopAnewStoreUptoSaid :=
  over
end Go.Proofs.Ytjkfleibnojjaaa
end
