/- Part 12 of 23 of the proof that the law TopAnewStub returns true and leaves its argument as it read before, for every input that the bounded statement admits (what it reads is of bulk at most 1048576). -/
import Derived.Test.YtbjkpdaigckiiaaP05
import Derived.Test.YtbjkpdaigckiiaaP06
import Derived.Test.YtbjkpdaigckiiaaP08
import Derived.Test.YtbjkpdaigckiiaaP09
import Derived.Test.YtbjkpdaigckiiaaP10
import Derived.Test.YtbjkpdaigckiiaaP11
section
open Go Go.Proofs Go.Proofs.Ytbjkpdaigckiiaa
set_option maxRecDepth 100000
namespace Go.Proofs.Ytbjkpdaigckiiaa.S
theorem heapT : HeapT Try.prog 3 9 25 31 33 := ⟨Try.underlying25, Try.underlying31, sz3, sz9, ze3, ze9, by3, by9, ap25, ap31, sz25, sz31, ag25, ag31, ag3, ag9, Try.underlying9, fa33_0, fa33_1⟩
theorem put8 : PutOk Try.prog 8 [.i] false := putInt_ok heapT fun h => c8 h
theorem put9 : PutOk Try.prog 9 [.i] false := putInt_ok heapT fun h => c9 h
theorem put18 : PutOk Try.prog 18 [.i, .i] true := putS_ok (fs := [(50, 0, 3, 8), (50, 1, 3, 8)]) (.cons (t := [.i]) (a := false) fz50_0 ag3 sz3 (by decide) put8 (.cons (t := [.i]) (a := false) fz50_1 ag3 sz3 (by decide) put8 (.nil))) fun h => c18 h
theorem put13 : PutOk Try.prog 13 [.sl [.i, .i]] false := by
  intro F h B m l k K Kp hp hw hB hK
  apply c13
  unfold s13
  refine puts_ok heapT Try.underlying43 sz50 ag50 (by decide) rfl put18 (fun h => c45 h) hp hw hB fun u m' hp' => ?_
  simp only [leave0, RK_ret]
  exact hK _ _ hp'
theorem put21 : PutOk Try.prog 21 [.sl [.i]] false := by
  intro F h B m l k K Kp hp hw hB hK
  apply c21
  unfold s21
  refine puts_ok heapT Try.underlying25 sz3 ag3 (by decide) rfl put8 (fun h => c50 h) hp hw hB fun u m' hp' => ?_
  simp only [leave0, RK_ret]
  exact hK _ _ hp'
theorem put90 : PutOk Try.prog 90 [.s] false := putText_ok heapT fun h => c90 h
theorem put87 : PutOk Try.prog 87 [.s, .i, .i, .i] true := putS_ok (fs := [(72, 0, 9, 90), (72, 1, 50, 18), (72, 2, 3, 8)]) (.cons (t := [.s]) (a := false) fz72_0 ag9 sz9 (by decide) put90 (.cons (t := [.i, .i]) (a := true) fz72_1 ag50 sz50 (by decide) put18 (.cons (t := [.i]) (a := false) fz72_2 ag3 sz3 (by decide) put8 (.nil)))) fun h => c87 h
theorem put72 : PutOk Try.prog 72 [.sl [.s, .i, .i, .i]] false := by
  intro F h B m l k K Kp hp hw hB hK
  apply c72
  unfold s72
  refine puts_ok heapT Try.underlying22 sz72 ag72 (by decide) rfl put87 (fun h => c86 h) hp hw hB fun u m' hp' => ?_
  simp only [leave0, RK_ret]
  exact hK _ _ hp'
theorem put33 : PutOk Try.prog 33 [.i, .sl [.s, .i, .i, .i]] true := putS_ok (fs := [(24, 0, 3, 8), (24, 1, 22, 72)]) (.cons (t := [.i]) (a := false) fz24_0 ag3 sz3 (by decide) put8 (.cons (t := [.sl [.s, .i, .i, .i]]) (a := false) fz24_1 ag22 sz22 (by decide) put72 (.nil))) fun h => c33 h
theorem put34 : PutOk Try.prog 34 [.i, .i] true := putS_ok (fs := [(27, 0, 3, 8), (27, 1, 3, 8)]) (.cons (t := [.i]) (a := false) fz27_0 ag3 sz3 (by decide) put8 (.cons (t := [.i]) (a := false) fz27_1 ag3 sz3 (by decide) put8 (.nil))) fun h => c34 h
theorem put74 : PutOk Try.prog 74 [.i, .i, .i] true := putS_ok (fs := [(104, 0, 50, 18), (104, 1, 3, 8)]) (.cons (t := [.i, .i]) (a := true) fz104_0 ag50 sz50 (by decide) put18 (.cons (t := [.i]) (a := false) fz104_1 ag3 sz3 (by decide) put8 (.nil))) fun h => c74 h
theorem put35 : PutOk Try.prog 35 [.sl [.i, .i, .i]] false := by
  intro F h B m l k K Kp hp hw hB hK
  apply c35
  unfold s35
  refine puts_ok heapT Try.underlying28 sz104 ag104 (by decide) rfl put74 (fun h => c73 h) hp hw hB fun u m' hp' => ?_
  simp only [leave0, RK_ret]
  exact hK _ _ hp'
theorem all4 {F : Keep} {h B : Nat} {m : CM} {l : List Value} {k : Nat} {K : Value → CM → Prop} {Kp : List PanicEntry → CM → Prop} (hp : Hp F h B m) (hw : WTL F [.i, .sl [.s, .i, .i, .i], .sl [.i], .i, .i, .sl [.i, .i, .i], .i, .i, .i] k l) (hB : B + k ≤ lim) (hK : ∀ u m', Hp F h (B + k) m' → K u m') :
    callw Try.prog 4 [.agg ⟨l⟩, .pointer (some ⟨h, 0, none⟩)] m K Kp :=
  all_ok (fs := [(30, 0, 24, 33), (30, 1, 25, 21), (30, 2, 27, 34), (30, 3, 28, 35), (30, 4, 3, 8), (30, 5, 3, 8), (30, 6, 3, 8)]) (.cons (t := [.i, .sl [.s, .i, .i, .i]]) (a := true) fz30_0 ag24 sz24 (by decide) put33 (.cons (t := [.sl [.i]]) (a := false) fz30_1 ag25 sz25 (by decide) put21 (.cons (t := [.i, .i]) (a := true) fz30_2 ag27 sz27 (by decide) put34 (.cons (t := [.sl [.i, .i, .i]]) (a := false) fz30_3 ag28 sz28 (by decide) put35 (.cons (t := [.i]) (a := false) fz30_4 ag3 sz3 (by decide) put8 (.cons (t := [.i]) (a := false) fz30_5 ag3 sz3 (by decide) put8 (.cons (t := [.i]) (a := false) fz30_6 ag3 sz3 (by decide) put8 (.nil)))))))) (fun h => c4 h) hp hw hB hK
end Go.Proofs.Ytbjkpdaigckiiaa.S
end

section
open Go Go.Proofs Go.Proofs.Ytbjkpdaigckiiaa
set_option maxRecDepth 100000
namespace Go.Proofs.Ytbjkpdaigckiiaa.S
theorem store_own {P : Program} {t : TypeId} {m : CM} {b e : Nat} {c : List Value} {v : Value} {K : Value → CM → Prop} (h : Own m b c e) (hs : szOf P t = some (toL v).length) (hl : (toL v).length = c.length) (h1 : (toL v).all one = true)
    (hk : ∀ m', m'.next = m.next → (∀ x, x ≠ b → m'.get x = m.get x) → Own m' b (toL v) e → K undef m') : sop (cstore P t (.pointer (some ⟨b, 0, none⟩)) v m) K := by
  refine h.store hs (by omega) h1 fun m' hn hx ho => ?_
  have hsp : splice c 0 (toL v) = toL v := by
    have hd : c.drop (toL v).length = [] := List.drop_eq_nil_of_le (by omega)
    simp [splice, hd]
  rw [hsp] at ho
  exact hk m' hn hx ho
theorem lda {P : Program} {t : TypeId} {b : Nat} {l : List Value} {m : CM} (h : Own m b l 0) (ha : aggB P t = some true) (hs : szOf P t = some l.length) : cload P t (.pointer (some ⟨b, 0, none⟩)) m = some (.agg ⟨l⟩) := by
  have := h.cel.za ha hs (j := 0) (by omega)
  simpa using this
theorem ldi {b : Nat} {l : List Value} {m : CM} {j : Nat} {n : Int} (h : Own m b l 0) (hj : l[j]? = some (.int .i64 n)) : cload Try.prog 3 (.pointer (some ⟨b, j, none⟩)) m = some (.int .i64 n) := h.cel.z ag3 hj
def KeepX (m : CM) (b : Nat) (m' : CM) : Prop := m.next ≤ m'.next ∧ ∀ x, x < m.next → x ≠ b → m'.get x = m.get x
theorem KeepX.refl (m : CM) (b : Nat) : KeepX m b m := ⟨Nat.le_refl _, fun _ _ _ => rfl⟩
theorem KeepX.le {m m1 m2 : CM} {b : Nat} (h : KeepX m b m1) (k : m1.le m2) : KeepX m b m2 := ⟨Nat.le_trans h.1 k.1, fun x hx hne => by rw [k.2 x (Nat.lt_of_lt_of_le hx h.1)]; exact h.2 x hx hne⟩
theorem KeepX.trans {m m1 m2 : CM} {b : Nat} (h : KeepX m b m1) (k : KeepX m1 b m2) : KeepX m b m2 := ⟨Nat.le_trans h.1 k.1, fun x hx hne => by rw [k.2 x (Nat.lt_of_lt_of_le hx h.1) hne]; exact h.2 x hx hne⟩
theorem KeepX.put {m m1 m2 : CM} {b : Nat} (h : KeepX m b m1) (hn : m2.next = m1.next) (hx : ∀ x, x ≠ b → m2.get x = m1.get x) : KeepX m b m2 := ⟨by rw [hn]; exact h.1, fun x hl hne => by rw [hx x hne]; exact h.2 x hl hne⟩
theorem Own.keepX {m m' : CM} {b c s : Nat} {l : List Value} (h : Own m c l s) (k : KeepX m b m') (hne : c ≠ b) : Own m' c l s := ⟨Nat.lt_of_lt_of_le h.1 k.1, by rw [k.2 c h.1 hne]; exact h.2⟩
theorem le_keepX {m0 m m' : CM} {b : Nat} (h : m0.le m) (k : KeepX m b m') (hb : m0.next ≤ b) : m0.le m' := ⟨Nat.le_trans h.1 k.1, fun y hy => by rw [k.2 y (Nat.lt_of_lt_of_le hy h.1) (by omega)]; exact h.2 y hy⟩
theorem le_view {m m8 M : CM} (h : m.le m8) (hn : M.next = m8.next) (hg : ∀ y, M.get y = if m.next ≤ y ∧ y < m.next + (m8.next - m.next) then m8.get y else m.get y) : m8.le M :=
  ⟨by omega, fun y hy => by
    rw [hg y]
    have := h.1
    split
    · rfl
    · exact (h.2 y (by omega)).symm⟩
theorem le_view2 {m m1 m2 M : CM} (h1 : m.le m1) (h2 : m1.le m2) (hn : M.next = m2.next) (hg : ∀ y, M.get y = if m1.next ≤ y ∧ y < m1.next + (m2.next - m1.next) then m2.get y else if m.next ≤ y ∧ y < m.next + (m1.next - m.next) then m1.get y else m.get y) : m2.le M :=
  ⟨by omega, fun y hy => by
    have q1 := h1.1; have q2 := h2.1
    rw [hg y]
    split
    · rfl
    · split
      · exact (h2.2 y (by omega)).symm
      · rw [h2.2 y (by omega), h1.2 y (by omega)]⟩
theorem lstw_own {P : Program} {t : TypeId} {M : CM} {b o e : Nat} {c : List Value} {v : Value} {K : Nat → CB → Prop} (hg : M.get b = some (.cells c e true)) (hs : szOf P t = some (toL v).length) (ho : o + (toL v).length ≤ c.length) (h1 : (toL v).all one = true) (hK : K b (.cells (splice c o (toL v)) e true)) :
    lstw (cstore P t (.pointer (some ⟨b, o, none⟩)) v M) (.pointer (some ⟨b, o, none⟩)) K := by
  refine ⟨M.put b (.cells (splice c o (toL v)) e true), b, o, _, ?_, rfl, by rw [CM.get_put, if_pos rfl], hK⟩
  simp [cstore, hs, cstoreL, hg, ho]; simpa using h1
theorem memL1 {m : CM} {E : List Ent} {j b nx : Nat} {x y : CB} {sel : Nat → Bool} (hs : sel j = true) (hg : (memJ m E sel nx).get b = some y) : memL m E [(j, b, x)] sel nx = (memJ m E sel nx).put b x := by
  simp only [memL, layW, lay1, hs, hg]
theorem Own.of {m : CM} {M : CM} {b e : Nat} {l : List Value} (h : Own m b l e) (ht : M.t = m.t) (hn : m.next ≤ M.next) : Own M b l e := ⟨Nat.lt_of_lt_of_le h.1 hn, by unfold CM.get; rw [ht]; exact h.2⟩
theorem leave_marks {P : Program} {rv : List RV} {R : CE → CM → Prop} : ∀ {Ds : List Nat} {m : CM}, (∀ D ∈ Ds, m.get D = some .dfr) → Ds.Pairwise (· ≠ ·) → (∀ m', m'.next = m.next → (∀ x, x ∉ Ds → m'.get x = m.get x) → leaveV P rv [] .ret m' R) → leaveV P rv (Ds.map mark) .ret m R
  | [], m, _, _, h => h m rfl fun _ _ => rfl
  | D :: Ds, m, hd, hn, h => by
    rw [List.map_cons]
    refine ⟨hd D (by simp), leave_marks (fun E hE => ?_) (List.pairwise_cons.1 hn).2 fun m' h1 h2 => h m' (by rw [h1]; simp) fun x hx => ?_⟩
    · rw [CM.get_set, if_neg (fun e => (List.pairwise_cons.1 hn).1 E hE e.symm)]
      exact hd E (by simp [hE])
    · simp only [List.mem_cons, not_or] at hx
      rw [h2 x hx.2, CM.get_set, if_neg hx.1]
theorem Own.put_ne {m : CM} {b e x : Nat} {l : List Value} {y : CB} (h : Own m b l e) (hx : b ≠ x) : Own (m.put x y) b l e := ⟨h.1, by rw [CM.get_put, if_neg hx]; exact h.2⟩
theorem cb_quo {t : TypeId} {x y : Operand} {k : IntKind} {a b : Int} (h : b ≠ 0) : cbin Try.prog .quo t x y (.int k a) (.int k b) = some (.int k (k.wrap (a.tdiv b))) := by simp [cbin, plainV, eqg, binOp_quo, Op.intDiv, h, pr_pure, chk]
theorem cun_neg {k : IntKind} {a : Int} : cun Try.prog .neg (.int k a) = some (.int k (k.wrap (-a))) := by simp [cun, plainV, Op.unary, Op.intArith, pr_pure, chk]
theorem cmm_min {a b : Int} : ∃ n, cmm Try.prog .min [.int .i64 a, .int .i64 b] = some (.int .i64 n) := by
  refine ⟨if b < a then b else a, ?_⟩
  simp only [cmm, plainL, plainV, Bool.and_self, if_true, Builtin.min_, List.foldlM_cons, List.foldlM_nil, Builtin.min2]
  rfl
theorem cmm_max {a b : Int} : ∃ n, cmm Try.prog .max [.int .i64 a, .int .i64 b] = some (.int .i64 n) := by
  refine ⟨if b > a then b else a, ?_⟩
  simp only [cmm, plainL, plainV, Bool.and_self, if_true, Builtin.max_, List.foldlM_cons, List.foldlM_nil, Builtin.max2]
  rfl
theorem splice_set {c : List Value} {k : Nat} {v : Value} (h : k < c.length) : splice c k [v] = c.set k v := by
  rw [List.set_eq_take_append_cons_drop, if_pos h]
  simp [splice]
theorem out36 : OutOk Try.prog 36 := out_ok Try.underlying25 sz3 ag3 (fun h => c36 h) (fun h => c76 h) (fun h => c75 h) (fun h => c88 h)
theorem name39 : NameOk Try.prog 39 := name_ok Try.underlying9 (fun h => c39 h)
theorem out_1 {lo hi x : Int} {m : CM} {K : Value → CM → Prop} {Kp : List PanicEntry → CM → Prop} (h : ∀ b m', m.le m' → (b = false → lo ≤ x ∧ x ≤ hi) → K (.bool b) m') :
    vop (cbuildS Try.prog 25 1 [(0, .int .i64 x)] m) (fun t m1 => callw Try.prog 36 [.int .i64 lo, .int .i64 hi, t] m1 K Kp) :=
  outL Try.underlying25 sz3 ze3 out36 (xs := [x]) (k := 1) rfl (by decide) rfl fun b m' hle hb => h b m' hle fun e => hb e x (by simp)
theorem out_2 {lo hi x y : Int} {m : CM} {K : Value → CM → Prop} {Kp : List PanicEntry → CM → Prop} (h : ∀ b m', m.le m' → (b = false → (lo ≤ x ∧ x ≤ hi) ∧ lo ≤ y ∧ y ≤ hi) → K (.bool b) m') :
    vop (cbuildS Try.prog 25 2 [(0, .int .i64 x), (1, .int .i64 y)] m) (fun t m1 => callw Try.prog 36 [.int .i64 lo, .int .i64 hi, t] m1 K Kp) :=
  outL Try.underlying25 sz3 ze3 out36 (xs := [x, y]) (k := 2) rfl (by decide) rfl fun b m' hle hb => h b m' hle fun e => ⟨hb e x (by simp), hb e y (by simp)⟩
theorem out_3 {lo hi x y z : Int} {m : CM} {K : Value → CM → Prop} {Kp : List PanicEntry → CM → Prop} (h : ∀ b m', m.le m' → K (.bool b) m') :
    vop (cbuildS Try.prog 25 3 [(0, .int .i64 x), (1, .int .i64 y), (2, .int .i64 z)] m) (fun t m1 => callw Try.prog 36 [.int .i64 lo, .int .i64 hi, t] m1 K Kp) :=
  outL Try.underlying25 sz3 ze3 out36 (xs := [x, y, z]) (k := 3) rfl (by decide) rfl fun b m' hle _ => h b m' hle
theorem hcb50 (a b : Int) : cbuild Try.prog 50 [(0, .int .i64 a), (1, .int .i64 b)] = some (.agg ⟨[.int .i64 a, .int .i64 b]⟩) := by kernel_rfl
end Go.Proofs.Ytbjkpdaigckiiaa.S
end

section
open Go Go.Proofs Go.Proofs.Ytbjkpdaigckiiaa
set_option maxRecDepth 100000
namespace Go.Proofs.Ytbjkpdaigckiiaa.S
/-! ### A line -/
def StepRow (r : List Value) : Prop := ∃ s a b c, r = [.string s, .int .i64 a, .int .i64 b, .int .i64 c]
theorem StepRow.one {r : List Value} (h : StepRow r) : r.all one = true := by obtain ⟨s, a, b, c, rfl⟩ := h; rfl
theorem Sl.one {e n : Nat} {m : CM} {v : Value} {row : Nat → List Value} (h : Sl e m v n row) : one v = true := by
  rcases h with ⟨rfl, _⟩ | ⟨b, o, q, c, own, rfl, _⟩ | ⟨b, rfl, _⟩ <;> rfl
structure LineD where
  err : Int
  v : Value
  n : Nat
  row : Nat → List Value
def LineD.cells (d : LineD) : List Value := [.int .i64 d.err, d.v]
structure LineD.In (d : LineD) (m : CM) : Prop where
  s : Sl 4 m d.v d.n d.row
  r : ∀ i, i < d.n → StepRow (d.row i)
  n0 : d.n < 4611686018427387904
theorem LineD.In.le {d : LineD} {m m' : CM} (h : d.In m) (k : m.le m') : d.In m' := ⟨h.s.le k, h.r, h.n0⟩
theorem check38 {d : LineD} {m : CM} (hd : d.In m) {t1 : Nat} (h1 : Own m t1 d.cells 0) {i : Nat} (hi : i < d.n) {K : Value → CM → Prop} {Kp : List PanicEntry → CM → Prop} (hK : ∀ m' e, m.le m' → K (.int .i64 e) m') :
    callw Try.prog 38 [.int .i64 i, .agg ⟨d.row i⟩, .pointer (some ⟨t1, 0, none⟩)] m K Kp := by
  have hn := hd.n0
  obtain ⟨s, a, b, c, hr⟩ := hd.r i hi
  rw [hr]
  apply c38
  unfold s38
  refine box_of fun t4 m1 hle1 hb4 ho4 => ?_
  replace ho4 : Own m1 t4 [.string s, .int .i64 a, .int .i64 b, .int .i64 c] 0 := ho4
  rw [fz72_0, pop_some, ho4.cel.z ag9 rfl, pop_some]
  refine name39 m1 s _ _ fun m3 t3 hle3 => ?_
  rw [cun_not, pop_some]
  have hle := hle1.trans hle3
  replace ho4 := ho4.le hle3
  cases t3 with
  | false => rw [show (!false) = true from rfl, cnd_true, leave1, RK_ret]; exact hK _ _ hle
  | true =>
  rw [show (!true) = false from rfl, cnd_false, fz24_1, pop_some, (h1.le hle).cel.z ag22 (j := 1) rfl, pop_some]
  obtain ⟨v', hv', hs'⟩ := (hd.s.le hle).pre Try.underlying22 sz72 (by decide) (i := i) (by omega) (by omega) (by omega) (.refl m3)
  rw [hv', pop_some]
  simp only [Int.toNat_natCast] at hs'
  refine c40 (con_ok (fun h => c77 h) Try.underlying22 sz72 ag72 (by decide) hs' (by omega) (fun _ _ => True) (fun k m' hk hle' => ?_) fun m4 t4' hle4 _ _ => ?_)
  · obtain ⟨s', a', b', c', hr'⟩ := hd.r k (by omega)
    rw [hr']
    show callw Try.prog 41 ([] ++ [_] ++ [.pointer (some ⟨t4, 0, none⟩)]) m' _ _
    apply c41
    unfold s41
    refine box_of fun t2 m5 hle5 hb2 ho2 => ?_
    simp only [toL, elv] at ho2
    simp only [fz72_0, pop_some]
    rw [ho2.cel.z ag9 rfl]
    simp only [pop_some]
    rw [((ho4.le hle').le hle5).cel.z ag9 rfl]
    simp only [pop_some, cb_eql_str]
    rw [leave1, RK_ret]
    exact ⟨_, rfl, hle5, trivial⟩
  · replace hle := hle.trans hle4
    replace ho4 := ho4.le hle4
    cases t4' with
    | true => rw [cnd_true, leave1, RK_ret]; exact hK _ _ hle
    | false =>
    simp only [cnd_false, fz72_1, fz72_2, pop_some, fa50_0, fa50_1, Nat.reduceAdd]
    rw [ldi ho4 (j := 1) rfl]
    simp only [pop_some]
    rw [ldi ho4 (j := 2) rfl]
    simp only [pop_some]
    rw [ldi ho4 (j := 3) rfl]
    simp only [pop_some]
    refine out_3 fun t5 m5 hle5 => ?_
    replace hle := hle.trans hle5
    replace ho4 := ho4.le hle5
    cases t5 with
    | true => rw [cnd_true, leave1, RK_ret]; exact hK _ _ hle
    | false =>
    rw [cnd_false, ldi ho4 (j := 1) rfl]
    simp only [pop_some]
    rw [ldi ho4 (j := 2) rfl]
    simp only [pop_some, cb_gtr]
    cases decide (b < a) with
    | true => rw [cnd_true, leave1, RK_ret]; exact hK _ _ hle
    | false => rw [cnd_false, leave1, RK_ret]; exact hK _ _ hle
theorem check7 {d : LineD} {m : CM} (hd : d.In m) {K : Value → CM → Prop} {Kp : List PanicEntry → CM → Prop} (hK : ∀ (p a e : Int) m', m.le m' → (e = 0 → 1 ≤ d.n ∧ d.n ≤ 6) → K (.tuple ⟨[.int .i64 p, .int .i64 a, .int .i64 e]⟩) m') :
    callw Try.prog 7 [.agg ⟨d.cells⟩] m K Kp := by
  apply c7
  unfold s7
  refine box_of fun t1 m1 hle1 hb1 ho1 => ?_
  replace ho1 : Own m1 t1 d.cells 0 := ho1
  rw [fz24_0, pop_some, ldi ho1 (j := 0) rfl, pop_some]
  refine out_1 fun b2 m2 hle2 h2 => ?_
  have hle := hle1.trans hle2
  replace ho1 := ho1.le hle2
  cases b2 with
  | true => rw [cnd_true, leave3, RK_ret]; exact hK _ _ _ _ hle (fun h => absurd h (by decide))
  | false =>
  rw [cnd_false, fz24_1, pop_some, ho1.cel.z ag22 (j := 1) rfl, pop_some, (hd.le hle).s.len Try.underlying22, pop_some]
  refine out_1 fun b3 m3 hle3 h3 => ?_
  replace hle := hle.trans hle3
  replace ho1 := ho1.le hle3
  cases b3 with
  | true => rw [cnd_true, leave3, RK_ret]; exact hK _ _ _ _ hle (fun h => absurd h (by decide))
  | false =>
  have h3' := h3 rfl
  have hn : 1 ≤ d.n ∧ d.n ≤ 6 := by omega
  rw [cnd_false]
  simp only [pop_some]
  rw [ho1.cel.z ag22 (j := 1) rfl, pop_some]
  refine first_ok (fun h => c37 h) Try.underlying22 sz72 ag72 (by decide) ze72 rfl hd.n0 (row := d.row) (Inv := fun _ m' => m3.le m') (J := fun _ m' => m3.le m') (fun i hi => (hd.r i hi).one) (fun i m' h => (hd.le hle).s.le h) (fun i m' m2 h k => h.trans k)
    (fun i m' K Kp hi hm hk => ?_) (.refl m3) fun m4 x e g0 g1 => ?_
  · show callw Try.prog 38 ([] ++ [.int .i64 i, _] ++ [.pointer (some ⟨t1, 0, none⟩)]) m' _ _
    exact check38 (hd.le (hle.trans hm)) (ho1.le hm) hi fun m2 e h => hk m2 e (fun _ => hm.trans h) (fun _ => hm.trans h)
  · have hle4 : m3.le m4 := by
      by_cases he : e = 0
      · exact g0 he
      · exact g1 he
    simp only [cext, List.getElem?_cons_zero, List.getElem?_cons_succ, pop_some, cb_neq]
    cases he : (e != 0) with
    | true => rw [cnd_true, leave3, RK_ret]; exact hK _ _ _ _ (hle.trans hle4) (fun h => by simp [h] at he)
    | false => rw [cnd_false, leave3, RK_ret]; exact hK _ _ _ _ (hle.trans hle4) fun _ => hn
/-! ### A line with its readings -/
theorem find78 {m : CM} {v f : Value} {n : Nat} {x : Nat → Int} (hs : Sl 1 m v n (fun j => [.int .i64 (x j)])) (hn : n < 4611686018427387904) (hf : ∀ (i : Nat) (m' : CM) (K : Value → CM → Prop) (Kp : List PanicEntry → CM → Prop), i < n → m.le m' → (∀ m2 (e : Int), m'.le m2 → K (.int .i64 e) m2) → callv Try.prog f [.int .i64 i, .int .i64 (x i)] m' K Kp)
    {K : Value → CM → Prop} {Kp : List PanicEntry → CM → Prop} (hK : ∀ m' (a e : Int), m.le m' → K (.tuple ⟨[.int .i64 a, .int .i64 e]⟩) m') : callw Try.prog 78 [v, f] m K Kp := by
  apply c78
  unfold s78
  rw [hs.len Try.underlying25, pop_some]
  refine loopA_of (fun l ds m' => ds = [] ∧ m.le m' ∧ ∃ i : Nat, ∃ c : Int, i ≤ n ∧ l = [f, .int .i64 0, .int .i64 c, v, .int .i64 n, .int .i64 i])
    (fun l _ => match l with | [_, _, _, _, _, .int _ i] => n - i.toNat | _ => 0) ⟨rfl, .refl m, 0, 0, by omega, rfl⟩ ?_
  rintro X ρ ds m' ⟨rfl, hle, i, c, hi, hl⟩ hX
  simp only [List.map_cons, List.map_nil, List.cons.injEq, and_true] at hl
  obtain ⟨q1, q4, q5, q8, q9, q10⟩ := hl
  simp only [q1, q4, q5, q8, q9, q10, cb_lss, pop_some]
  by_cases hci : i < n
  · have hc' : decide ((i : Int) < (n : Int)) = true := by simpa using hci
    obtain ⟨b, o, hia, hcel, hlen⟩ := (hs.le hle).at Try.underlying25 sz3 (i := i) (by omega) (by omega)
    simp only [Int.toNat_natCast] at hcel hlen
    rw [hc', cnd_true, hia, pop_some, hcel.elv ag3 sz3 hlen (by decide), pop_some]
    refine hf i m' _ _ hci hle fun m2 e hle2 => ?_
    rw [cb_neq, pop_some]
    cases (e != 0) with
    | true => rw [cnd_true, leave2, RK_ret]; exact hK _ _ _ (hle.trans hle2)
    | false =>
      rw [cnd_false, cb_add, pop_some, wrap_id (by omega) (by omega)]
      refine hX _ _ _ ⟨rfl, hle.trans hle2, i + 1, e, by omega, by simp⟩ ?_
      simp only [List.map_cons, List.map_nil, q10]; omega
  · have hc' : decide ((i : Int) < (n : Int)) = false := by simpa using hci
    rw [hc', cnd_false, leave2, RK_ret]
    exact hK _ _ _ hle
theorem hcb78 (e : Int) (v : Value) (a : Option Addr) (l k : Nat) : cbuild Try.prog 78 [(0, .agg ⟨[.int .i64 e, v]⟩), (1, .slice a l k)] = some (.agg ⟨[.int .i64 e, v, .slice a l k]⟩) := by kernel_rfl
theorem Sl.isS {e n : Nat} {m : CM} {v : Value} {row : Nat → List Value} (h : Sl e m v n row) : ∃ a l k, v = .slice a l k := by
  rcases h with ⟨rfl, _⟩ | ⟨b, o, q, c, own, rfl, _⟩ | ⟨b, rfl, _⟩ <;> exact ⟨_, _, _, rfl⟩
structure LnD where
  d : LineD
  v : Value
  n : Nat
  x : Nat → Int
def LnD.cells (l : LnD) : List Value := [.int .i64 l.d.err, l.d.v, l.v]
structure LnD.In (l : LnD) (m : CM) : Prop where
  d : l.d.In m
  s : Sl 1 m l.v l.n (fun j => [.int .i64 (l.x j)])
  n0 : l.n < 4611686018427387904
theorem LnD.In.le {l : LnD} {m m' : CM} (h : l.In m) (k : m.le m') : l.In m' := ⟨h.d.le k, h.s.le k, h.n0⟩
theorem open42 {l : LnD} {m : CM} (hl : l.In m) {K : Value → CM → Prop} {Kp : List PanicEntry → CM → Prop}
    (hK : ∀ m' c (e : Int), m.le m' → c.length = 3 → c.all one = true → (e = 0 → c = l.cells ∧ (1 ≤ l.d.n ∧ l.d.n ≤ 6) ∧ l.n = l.d.n + 1) → K (.tuple ⟨[.agg ⟨c⟩, .int .i64 e]⟩) m') :
    callw Try.prog 42 [.agg ⟨l.d.cells⟩, l.v] m K Kp := by
  apply c42
  unfold s42
  refine box_of fun t2 m1 hle1 hb1 ho1 => ?_
  replace ho1 : Own m1 t2 l.d.cells 0 := ho1
  refine alw_of ze78 fun t4 m2 hle2 hb2 ho2 => ?_
  have hle := hle1.trans hle2
  replace ho1 := ho1.le hle2
  have fin : ∀ {m4 : CM} {c c' : List Value} {e : Int}, m.le m4 → Own m4 t4 c 0 → c.length = 3 → c'.length = 3 → c'.all one = true → (e = 0 → c' = l.cells ∧ (1 ≤ l.d.n ∧ l.d.n ≤ 6) ∧ l.n = l.d.n + 1) →
      sop (cstore Try.prog 78 (.pointer (some ⟨t4, 0, none⟩)) (.agg ⟨c'⟩) m4) (fun _ m => leaveV Try.prog [.c 78 (.pointer (some ⟨t4, 0, none⟩)), .v (.int .i64 e)] [] .ret m (RK K Kp)) := by
    intro m4 c c' e hl4 ho hc hc' h1 he
    refine store_own ho (by simp [toL, sz78, hc']) (by simp [toL, hc', hc]) h1 fun m5 hn5 hx5 ho5 => ?_
    simp only [toL] at ho5
    show pop (cload Try.prog 78 (.pointer (some ⟨t4, 0, none⟩)) m5) m5 _
    rw [lda ho5 ag78 (by rw [hc']; exact sz78), pop_some]
    exact hK m5 _ e (le_of_put hl4 (by have := hle1.1; omega) hn5 hx5) hc' h1 he
  rw [lda ho1 ag24 sz24, pop_some]
  refine check7 (hl.d.le hle) fun p a e m3 hle3 h3 => ?_
  replace hle := hle.trans hle3
  replace ho1 := ho1.le hle3
  replace ho2 := ho2.le hle3
  simp only [cext, List.getElem?_cons_zero, List.getElem?_cons_succ, pop_some, cb_neq]
  cases he : (e != 0) with
  | true => rw [cnd_true, lda ho2 ag78 sz78, pop_some]; exact fin hle ho2 rfl rfl rfl fun h => by simp [h] at he
  | false =>
  have hn := h3 (by simpa using he)
  rw [cnd_false, hl.s.len Try.underlying25, pop_some, fz24_1, pop_some, ho1.cel.z ag22 (j := 1) rfl, pop_some, (hl.d.le hle).s.len Try.underlying22, pop_some, cb_add, pop_some, cb_neq, pop_some, wrap_id (by omega) (by omega)]
  cases hb : ((l.n : Int) != (l.d.n : Int) + 1) with
  | true => rw [cnd_true, lda ho2 ag78 sz78, pop_some]; exact fin hle ho2 rfl rfl rfl fun h => by simp at h
  | false =>
  have hnn : l.n = l.d.n + 1 := by have : (l.n : Int) = (l.d.n : Int) + 1 := by simpa using hb
                                   omega
  rw [cnd_false]
  refine find78 (hl.s.le hle) hl.n0 (fun i m' K Kp hi hm hk => ?_) fun m4 x e4 hle4 => ?_
  · show callw Try.prog 79 ([] ++ [.int .i64 i, .int .i64 (l.x i)] ++ []) m' _ _
    apply c79
    unfold s79
    rw [cb_neq, pop_some]
    cases (l.x i != -1) with
    | false =>
      simp only [gb_bool, Bool.false_beq, Bool.not_true, gop_false, cpick_bool, Bool.false_eq_true, if_false, pop_some, cnd_false]
      rw [leave1, RK_ret]; exact hk _ _ (.refl m')
    | true =>
      simp only [gb_bool, beq_self_eq_true, gop_true]
      refine out_1 fun b5 m5 hle5 _ => ?_
      simp only [gop_true, cpick_bool, if_true, pop_some]
      cases b5 with
      | true => rw [cnd_true, leave1, RK_ret]; exact hk _ _ hle5
      | false => rw [cnd_false, leave1, RK_ret]; exact hk _ _ hle5
  · simp only [List.getElem?_cons_zero, List.getElem?_cons_succ, pop_some]
    rw [lda (ho1.le hle4) ag24 sz24, pop_some]
    have hcb : cbuild Try.prog 78 [(0, .agg ⟨l.d.cells⟩), (1, l.v)] = some (.agg ⟨l.cells⟩) := by
      obtain ⟨a, n', k, hv⟩ := Sl.isS hl.s
      rw [show l.cells = [.int .i64 l.d.err, l.d.v, l.v] from rfl, hv]
      exact hcb78 ..
    rw [hcb, pop_some]
    exact fin (hle.trans hle4) (ho2.le hle4) rfl rfl (by
      have e1 := Sl.one hl.s
      have e2 := Sl.one hl.d.s
      simp only [LnD.cells, List.all_cons, e1, e2, List.all_nil, Bool.and_true]; rfl) fun _ => ⟨rfl, hn, hnn⟩
end Go.Proofs.Ytbjkpdaigckiiaa.S
end

section
open Go Go.Proofs Go.Proofs.Ytbjkpdaigckiiaa
set_option maxRecDepth 100000
namespace Go.Proofs.Ytbjkpdaigckiiaa.S
theorem points44 {m : CM} {l : LnD} {K : Value → CM → Prop} {Kp : List PanicEntry → CM → Prop} (hK : ∀ m' t1, m.le m' → m.next ≤ t1 → Own m' t1 l.cells 0 → K (.func (.func 81) ⟨[]⟩ ⟨[.pointer (some ⟨t1, 0, none⟩)]⟩) m') : callw Try.prog 44 [.agg ⟨l.cells⟩] m K Kp := by
  apply c44
  unfold s44
  refine box_of fun t1 m1 hle1 hb1 ho1 => ?_
  replace ho1 : Own m1 t1 l.cells 0 := ho1
  rw [leave1, RK_ret]
  exact hK _ _ hle1 hb1 ho1
theorem hcb50h (b : Int) : cbuild Try.prog 50 [(1, .int .i64 b)] = some (.agg ⟨[.int .i64 0, .int .i64 b]⟩) := by kernel_rfl
theorem iter81 {l : LnD} {t1 lp : Nat} {I : Nat → CM → Prop} (hn : l.n = l.d.n + 1) (hn6 : l.d.n ≤ 6) (hI : ∀ i m m', I i m → m.le m' → I i m') (hL : ∀ i m, I i m → l.In m ∧ Own m t1 l.cells 0)
    (hy : ∀ (i : Nat) (a b : Int) (m : CM) (K : Value → CM → Prop), I i m → i < l.n → (∀ m', I (i + 1) m' → K (.bool true) m') → yieldw Try.prog lp [.int .i64 i, .agg ⟨[.int .i64 a, .int .i64 b]⟩] m K)
    {m : CM} (h : I 0 m) {K : Value → CM → Prop} {Kp : List PanicEntry → CM → Prop} (hK : ∀ v m', I l.n m' → K v m') : callw Try.prog 81 [yv lp, .pointer (some ⟨t1, 0, none⟩)] m K Kp := by
  obtain ⟨hl, ho1⟩ := hL _ _ h
  apply c81
  unfold s81
  simp only [fz78_0, fz78_1, fz24_0, pop_some]
  rw [ldi ho1 (j := 0) rfl]
  simp only [pop_some]
  rw [ho1.cel.z ag25 (j := 2) rfl]
  simp only [pop_some]
  rw [hl.s.len Try.underlying25]
  simp only [pop_some]
  refine loopA_of (fun l0 ds m' => ds = [] ∧ ∃ (i : Nat) (w : Int), i ≤ l.n ∧ I i m' ∧ l0 = [yv lp, .pointer (some ⟨t1, 0, none⟩), .int .i64 w, l.v, .int .i64 l.n, .int .i64 i])
    (fun l0 _ => match l0 with | [_, _, _, _, _, .int _ i] => l.n - i.toNat | _ => 0) ⟨rfl, 0, _, by omega, h, rfl⟩ ?_
  clear hl ho1
  rintro X ρ ds m' ⟨rfl, i, w, hi, hIm, hll⟩ hX
  simp only [List.map_cons, List.map_nil, List.cons.injEq, and_true] at hll
  obtain ⟨q0, q1, q3, q11, q12, q13⟩ := hll
  simp only [q0, q1, q3, q11, q12, q13, cb_lss, pop_some]
  obtain ⟨hl, ho1⟩ := hL _ _ hIm
  by_cases hci : i < l.n
  · have hc' : decide ((i : Int) < (l.n : Int)) = true := by simpa using hci
    obtain ⟨bx, ox, hia, hcel, hlen⟩ := hl.s.at Try.underlying25 sz3 (i := i) (by omega) (by omega)
    simp only [Int.toNat_natCast] at hcel hlen
    rw [hc', cnd_true, hia, pop_some, hcel.elv ag3 sz3 hlen (by decide), pop_some, cb_gtr, pop_some]
    have j1 : ∀ (w a b : Int) (t6 : Nat) (m2 : CM), m'.le m2 → Own m2 t6 [.int .i64 a, .int .i64 b] 0 → j81_1 (RK K Kp) X (yv lp) (.int .i64 i) (.pointer (some ⟨t6, 0, none⟩)) (.int .i64 i) (.pointer (some ⟨t1, 0, none⟩)) (.int .i64 w) l.v (.int .i64 l.n) [] m2 := by
      intro w a b t6 m2 hle2 ho6
      unfold j81_1
      rw [lda ho6 ag50 sz50, pop_some]
      show yieldw Try.prog lp [.int .i64 i, .agg ⟨[.int .i64 a, .int .i64 b]⟩] m2 _
      refine hy i a b m2 _ (hI _ _ _ hIm hle2) hci fun m3 h3 => ?_
      rw [cun_not, pop_some, show (!true) = false from rfl, cnd_false, cb_add, pop_some, wrap_id (by omega) (by omega)]
      refine hX _ _ _ ⟨rfl, i + 1, w, by omega, h3, by simp⟩ ?_
      simp only [List.map_cons, List.map_nil, q13]; omega
    have j0 : ∀ (r w : Int), j81_0 (RK K Kp) X (.int .i64 r) (.int .i64 w) (yv lp) (.int .i64 i) (.int .i64 i) (.pointer (some ⟨t1, 0, none⟩)) l.v (.int .i64 l.n) [] m' := by
      intro r w
      unfold j81_0
      rw [hcb50h, pop_some]
      refine alw_of ze50 fun t6 m2 hle2 hb6 ho6 => store_own ho6 (by simp [toL, sz50]) (by simp [toL]) rfl fun m3 hn3 hx3 ho6 => ?_
      simp only [toL] at ho6
      have hle3 := le_of_put hle2 hb6 hn3 hx3
      rw [cb_neq, pop_some]
      cases (r != -1) with
      | false => rw [cnd_false]; exact j1 w _ _ t6 m3 hle3 ho6
      | true =>
        obtain ⟨u1, hu1⟩ := cmm_max (a := 0) (b := IntKind.i64.wrap (r - w))
        obtain ⟨u2, hu2⟩ := cmm_min (a := 1000000) (b := IntKind.i64.wrap (r + w))
        rw [cnd_true, cb_sub, pop_some, hu1, pop_some, cb_add, pop_some, hu2, pop_some, hcb50, pop_some]
        refine store_own ho6 (by simp [toL, sz50]) (by simp [toL]) rfl fun m4 hn4 hx4 ho6 => ?_
        simp only [toL] at ho6
        exact j1 w _ _ t6 m4 (le_of_put hle3 hb6 hn4 hx4) ho6
    by_cases hi0 : 0 < i
    · rw [show decide ((0 : Int) < (i : Int)) = true by simpa using hi0, cnd_true]
      simp only [fz78_0, fz24_1, pop_some]
      rw [ho1.cel.z ag22 (j := 1) rfl]
      simp only [pop_some, cb_sub]
      rw [wrap_id (n := (i : Int) - 1) (by omega) (by omega)]
      obtain ⟨k, rfl⟩ : ∃ k, i = k + 1 := ⟨i - 1, by omega⟩
      obtain ⟨b2, o2, hia2, hcel2, hlen2⟩ := hl.d.s.at Try.underlying22 sz72 (i := k) (by omega) (by omega)
      simp only [Int.toNat_natCast] at hcel2
      obtain ⟨s, a, b, c, hr⟩ := hl.d.r k (by omega)
      rw [hr] at hcel2
      rw [show (((k + 1 : Nat) : Int) - 1) = (k : Int) by omega, hia2]
      simp only [pop_some, fa72_2]
      rw [hcel2.s ag3 (j := 3) rfl]
      simp only [pop_some]
      exact j0 _ _
    · rw [show decide ((0 : Int) < (i : Int)) = false by simpa using hi0, cnd_false]
      exact j0 _ _
  · have hc' : decide ((i : Int) < (l.n : Int)) = false := by simpa using hci
    rw [hc', cnd_false, leave0, RK_ret]
    have : i = l.n := by omega
    subst this
    exact hK _ _ hIm
theorem min89 {m : CM} {v : Value} {x : Int} (hs : Sl 1 m v 1 (fun _ => [.int .i64 x])) {K : Value → CM → Prop} {Kp : List PanicEntry → CM → Prop} (hK : ∀ n : Int, K (.int .i64 n) m) : callw Try.prog 89 [v] m K Kp := by
  apply c89
  unfold s89
  rw [hs.len Try.underlying25, pop_some, cb_lss, pop_some, show decide (((1 : Nat) : Int) < 1) = false from rfl, cnd_false]
  unfold j89_0
  obtain ⟨bx, ox, hia, hcel, hlen⟩ := hs.at Try.underlying25 sz3 (i := 0) (by omega) (by omega)
  rw [hia, pop_some, hcel.elv ag3 sz3 hlen (by decide), pop_some]
  refine loopA_of (fun l0 ds m' => ds = [] ∧ m' = m ∧ ∃ (c : Int), l0 = [v, .int .i64 c, .int .i64 1]) (fun _ _ => 0) ⟨rfl, rfl, x, rfl⟩ ?_
  rintro X ρ ds m' ⟨rfl, rfl, c, hll⟩ hX
  simp only [List.map_cons, List.map_nil, List.cons.injEq, and_true] at hll
  obtain ⟨q0, q3, q4⟩ := hll
  simp only [q0, q3, q4, hs.len Try.underlying25, cb_lss, pop_some]
  rw [show decide ((1 : Int) < ((1 : Nat) : Int)) = false from rfl, cnd_false, leave1, RK_ret]
  exact hK _
/-- least: one number of a block turns. -/
theorem least80 {m : CM} {b o e : Nat} {c : List Value} {v : Value} {x y : Int} (hb : Own m b c e) (ho : c[o]? = some (.int .i64 y)) (hs : Sl 1 m v 1 (fun _ => [.int .i64 x])) {K : Value → CM → Prop} {Kp : List PanicEntry → CM → Prop}
    (hK : ∀ m' (n : Int), m'.next = m.next → (∀ z, z ≠ b → m'.get z = m.get z) → Own m' b (c.set o (.int .i64 n)) e → K (.tuple ⟨[]⟩) m') : callw Try.prog 80 [.pointer (some ⟨b, o, none⟩), v] m K Kp := by
  have hol : o < c.length := (List.getElem?_eq_some_iff.1 ho).1
  apply c80
  unfold s80
  simp only [cnilc, pop_some]
  rw [hb.cel.z ag3 ho]
  simp only [pop_some]
  refine min89 hs fun n => ⟨.refl m, ?_⟩
  obtain ⟨u, hu⟩ := cmm_min (a := y) (b := n)
  rw [hu, pop_some]
  generalize hMV : memJ m _ (fun _ => true) m.next = MV
  have hV : m.le MV := hMV ▸ le_view (.refl m) rfl fun y => get_over ..
  have hVn : MV.next = m.next := by rw [← hMV]; rfl
  have hVg : ∀ z, MV.get z = m.get z := fun z => by
    have := (get_over m m.next (m.next - m.next) m z)
    rw [if_neg (by omega)] at this
    rw [← hMV]; exact this
  refine (hb.le hV).store (by simp [toL, sz3]) (by simp [toL]; omega) rfl fun m2 hn2 hx2 ho2 => ?_
  simp only [toL] at ho2
  rw [splice_set hol] at ho2
  rw [leave0, RK_ret]
  exact hK m2 u (by omega) (fun z hz => by rw [hx2 z hz, hVg z]) ho2
end Go.Proofs.Ytbjkpdaigckiiaa.S
end

section
open Go Go.Proofs Go.Proofs.Ytbjkpdaigckiiaa
set_option maxRecDepth 100000
namespace Go.Proofs.Ytbjkpdaigckiiaa.S
theorem cia83 (b o : Nat) {i : Nat} (hi : i < 8) : cia Try.prog 83 (.pointer (some ⟨b, o, none⟩)) (.int .i64 i) = some (.pointer (some ⟨b, o + i * 8, none⟩)) := by
  simp [cia, Try.underlying83, sz81]; omega
theorem cia81 (b o : Nat) {i : Nat} (hi : i < 8) : cia Try.prog 81 (.pointer (some ⟨b, o, none⟩)) (.int .i64 i) = some (.pointer (some ⟨b, o + i, none⟩)) := by
  simp [cia, Try.underlying81, sz3]; omega
theorem cia81' (b o : Nat) {n : Int} {i : Nat} (h : n = i) (hi : i < 8) : cia Try.prog 81 (.pointer (some ⟨b, o, none⟩)) (.int .i64 n) = some (.pointer (some ⟨b, o + i, none⟩)) := by subst h; exact cia81 b o hi
theorem cia83' (b o : Nat) {n : Int} {i : Nat} (h : n = i) (hi : i < 8) : cia Try.prog 83 (.pointer (some ⟨b, o, none⟩)) (.int .i64 n) = some (.pointer (some ⟨b, o + i * 8, none⟩)) := by subst h; exact cia83 b o hi
/-- The block of the numbers. -/
structure Mx (m : CM) (t : Nat) (c : List Value) : Prop where
  own : Own m t c 0
  len : c.length = 64
  ints : ∀ u ∈ c, ∃ k, u = .int .i64 k
theorem Mx.le {m m' : CM} {t : Nat} {c : List Value} (h : Mx m t c) (k : m.le m') : Mx m' t c := ⟨h.own.le k, h.len, h.ints⟩
theorem Mx.get {m : CM} {t : Nat} {c : List Value} (h : Mx m t c) {p : Nat} (hp : p < 64) : ∃ u : Int, c[p]? = some (.int .i64 u) := by
  have hl : p < c.length := by rw [h.len]; exact hp
  obtain ⟨k, hk⟩ := h.ints c[p] (List.getElem_mem hl)
  exact ⟨k, by rw [List.getElem?_eq_getElem hl, hk]⟩
theorem Mx.set {m m' : CM} {t : Nat} {c : List Value} (h : Mx m t c) {p : Nat} {n : Int} (ho : Own m' t (c.set p (.int .i64 n)) 0) : Mx m' t (c.set p (.int .i64 n)) :=
  ⟨ho, by rw [List.length_set]; exact h.len, fun u hu => by
    rcases List.mem_or_eq_of_mem_set hu with hu | hu
    · exact h.ints u hu
    · exact ⟨_, hu⟩⟩
theorem Mx.store {m : CM} {t : Nat} {c : List Value} (h : Mx m t c) {p : Nat} (hp : p < 64) {n : Int} {K : Value → CM → Prop} (hK : ∀ m' c', m'.next = m.next → (∀ x, x ≠ t → m'.get x = m.get x) → Mx m' t c' → K undef m') : sop (cstore Try.prog 3 (.pointer (some ⟨t, p, none⟩)) (.int .i64 n) m) K := by
  refine h.own.store (by simp [toL, sz3]) (by simp [toL, h.len]; omega) rfl fun m2 hn2 hx2 ho2 => ?_
  simp only [toL] at ho2
  rw [splice_set (by rw [h.len]; exact hp)] at ho2
  exact hK m2 _ hn2 hx2 (h.set ho2)
noncomputable abbrev A43 (ρ : Nat → Value) (ds : List Deferred) (t15 t29 t30 : Value) : CA := ((((CA.mk 122 ρ ds).put (some 15) t15).put (some 29) t29).put (some 30) t30)
theorem yield43 {ρ : Nat → Value} {ds : List Deferred} {t15 t29 t30 x0 x1 : Value} {l D : Nat} {m : CM} (hl : m.get l = some (.loop (rfRec (A43 ρ ds t15 t29 t30) #[31, 32] as43_0 bd43_0 D))) {RY : Value → CM → Prop} (h : r43_0 RY l (A43 ρ ds t15 t29 t30) x0 x1 m) : yieldw Try.prog l [x0, x1] m RY :=
  yield_text mixed (ann := ann43) hl rfl (by kernel_rfl) (by kernel_rfl) (by kernel_rfl) (by rw [er43_0]; exact h)
theorem A43_2 {ρ : Nat → Value} {ds : List Deferred} {t15 t29 t30 : Value} : (A43 ρ ds t15 t29 t30).ρ 2 = ρ 2 := rfl
/-- A late store into the numbers: what lies there then. -/
theorem late_put {m : CM} {t : Nat} {c : List Value} (h : Mx m t c) {p : Nat} (hp : p < 64) {n : Int} {K : Nat → CB → Prop} (hK : K t (.cells (c.set p (.int .i64 n)) 0 true)) :
    lstw (cstore Try.prog 3 (.pointer (some ⟨t, p, none⟩)) (.int .i64 n) m) (.pointer (some ⟨t, p, none⟩)) K := by
  refine lstw_own h.own.2 (by simp [toL, sz3]) (by simp [toL, h.len]; omega) rfl ?_
  simp only [toL]
  rw [splice_set (by rw [h.len]; exact hp)]
  exact hK
theorem Mx.put {m : CM} {t : Nat} {c : List Value} (h : Mx m t c) {p : Nat} {n : Int} : Mx (m.put t (.cells (c.set p (.int .i64 n)) 0 true)) t (c.set p (.int .i64 n)) :=
  h.set ⟨by simp only [CM.next_put]; exact h.own.1, by rw [CM.get_put, if_pos rfl]⟩
end Go.Proofs.Ytbjkpdaigckiiaa.S
end

section
open Go Go.Proofs Go.Proofs.Ytbjkpdaigckiiaa
set_option maxRecDepth 100000
namespace Go.Proofs.Ytbjkpdaigckiiaa.S
set_option maxHeartbeats 1000000 in
/-- What stands behind the points: the steps, the others, the answer. -/
theorem j43_ok {l : LnD} {m0 mB : CM} {t1 t2 D : Nat} {c0 : List Value} (h0 : m0.le mB) (hl : l.In m0) (hn6 : 1 ≤ l.d.n ∧ l.d.n ≤ 6) (ho1 : Own mB t1 l.cells 0) (hM : Mx mB t2 c0) (hD : mB.get D = some .dfr) (hDl : D < mB.next) (hD2 : D ≠ t2) (h12 : t1 ≠ t2) (ht2 : m0.next ≤ t2) (hDm : m0.next ≤ D)
    {K : Value → CM → Prop} {Kp : List PanicEntry → CM → Prop} (hK : ∀ m' c (b : Bool), m0.le m' → c.length = 64 → (∀ u ∈ c, ∃ k, u = .int .i64 k) → K (.tuple ⟨[.agg ⟨c⟩, .bool b]⟩) m') :
    j43_1 (RK K Kp) (.pointer (some ⟨t1, 0, none⟩)) (.pointer (some ⟨t2, 0, none⟩)) (.bool false) [mark D] mB := by
  have facts : ∀ {m' : CM}, KeepX mB t2 m' → l.In m' ∧ Own m' t1 l.cells 0 ∧ m'.get D = some .dfr ∧ m0.le m' := fun {m'} k =>
    ⟨hl.le (le_keepX h0 k ht2), Own.keepX ho1 k h12, by rw [k.2 D hDl hD2]; exact hD, le_keepX h0 k ht2⟩
  have fin : ∀ {m' : CM} {c : List Value} {b : Bool}, KeepX mB t2 m' → Mx m' t2 c → pop (cload Try.prog 83 (.pointer (some ⟨t2, 0, none⟩)) m') m' (fun t m => sop (cstore Try.prog 83 (.pointer (some ⟨t2, 0, none⟩)) t m) (fun _ m => leaveV Try.prog [.c 83 (.pointer (some ⟨t2, 0, none⟩)), .v (.bool b)] [mark D] .ret m (RK K Kp))) := by
    intro m' c b k hm
    have h1 : c.all one = true := by
      rw [List.all_eq_true]; intro x hx; obtain ⟨k, rfl⟩ := hm.ints x hx; rfl
    rw [lda hm.own ag83 (by rw [hm.len]; exact sz83), pop_some]
    refine store_own hm.own (by simp only [toL]; rw [hm.len]; exact sz83) (by simp [toL]) h1 fun m2 hn2 hx2 ho2 => ?_
    simp only [toL] at ho2
    obtain ⟨_, _, gD, gle⟩ := facts k
    show leaveV Try.prog _ ([D].map mark) .ret m2 _
    refine leave_marks (fun E hE => ?_) (by simp) fun m3 hn3 hx3 => ?_
    · simp at hE; subst hE; rw [hx2 _ hD2]; exact gD
    · have ho3 : Own m3 t2 c 0 := ⟨by rw [hn3]; exact ho2.1, by rw [hx3 t2 (by simp; exact Ne.symm hD2)]; exact ho2.2⟩
      show pop (cload Try.prog 83 (.pointer (some ⟨t2, 0, none⟩)) m3) m3 _
      rw [lda ho3 ag83 (by rw [hm.len]; exact sz83), pop_some]
      refine hK m3 c b ⟨by have := gle.1; omega, fun y hy => ?_⟩ hm.len hm.ints
      rw [hx3 y (by simp; omega), hx2 y (by omega)]
      exact gle.2 y hy
  unfold j43_1
  obtain ⟨g1, g2, g3, g4⟩ := facts (.refl mB t2)
  simp only [fz78_0, fz24_1, pop_some]
  rw [g2.cel.z ag22 (j := 1) rfl]
  simp only [pop_some]
  rw [g1.d.s.len Try.underlying22]
  simp only [pop_some]
  clear g1 g2 g3 g4
  refine loopA_of (fun l0 ds m' => ds = [mark D] ∧ KeepX mB t2 m' ∧ (∃ c, Mx m' t2 c) ∧ ∃ i : Nat, i ≤ l.d.n ∧ l0 = [.pointer (some ⟨t1, 0, none⟩), .pointer (some ⟨t2, 0, none⟩), .bool false, l.d.v, .int .i64 l.d.n, .int .i64 i])
    (fun l0 _ => match l0 with | [_, _, _, _, _, .int _ i] => l.d.n - i.toNat | _ => 0) ⟨rfl, .refl mB t2, ⟨c0, hM⟩, 0, by omega, rfl⟩ ?_
  rintro X ρ ds m' ⟨rfl, hk, ⟨c, hm⟩, i, hi, hll⟩ hX
  simp only [List.map_cons, List.map_nil, List.cons.injEq, and_true] at hll
  obtain ⟨q1, q2, q3, q46, q47, q48⟩ := hll
  simp only [q1, q2, q3, q46, q47, q48, cb_lss, pop_some]
  obtain ⟨g1, g2, g3, g4⟩ := facts hk
  by_cases hci : i < l.d.n
  · have hc' : decide ((i : Int) < (l.d.n : Int)) = true := by simpa using hci
    obtain ⟨bx, ox, hia, hcel, hlen⟩ := g1.d.s.at Try.underlying22 sz72 (i := i) (by omega) (by omega)
    simp only [Int.toNat_natCast] at hcel hlen
    obtain ⟨s, a, b, e, hr⟩ := g1.d.r i hci
    rw [hc', cnd_true, hia, pop_some, hcel.elv ag72 sz72 hlen (by decide), pop_some, hr]
    refine alw_of ze72 fun t9 m2 hle2 hb9 ho9 => store_own ho9 (by simp [toL, elv, sz72]) (by simp [toL, elv]) rfl fun m3 hn3 hx3 ho9 => ?_
    simp only [toL, elv] at ho9
    have hle3 : m'.le m3 := le_of_put hle2 hb9 hn3 hx3
    have hk3 := hk.le hle3
    have hm3 := hm.le hle3
    have ht9 : t9 ≠ t2 := by have := hm.own.1; omega
    simp only [cb_add, pop_some, fz72_1, fa50_1, fa50_0]
    rw [wrap_id (n := (i : Int) + 1) (by omega) (by omega), ldi ho9 (j := 2) rfl]
    simp only [pop_some]
    rw [ldi ho9 (j := 1) rfl]
    simp only [pop_some, cun_neg]
    rw [cia83 _ _ (show i < 8 by omega)]
    simp only [pop_some]
    rw [cia81' _ _ (i := i + 1) (by omega) (by omega)]
    simp only [pop_some]
    refine late_put hm3 (by omega) ⟨⟨hm3.own.1, ?_⟩, by simp, ?_⟩
    · exact ⟨ht9, trivial⟩
    · rw [cia83' _ _ (i := i + 1) (by omega) (by omega)]
      simp only [pop_some]
      rw [cia81 _ _ (show i < 8 by omega)]
      simp only [pop_some]
      generalize hML : memL m3 _ [(15, t2, _)] (fun _ => true) m3.next = ML
      have hJ : ∀ (E : List Ent) (sel : Nat → Bool), (memJ m3 E sel m3.next).t = m3.t → (memJ m3 E sel m3.next).get t2 = some (.cells c 0 true) := fun E sel h => by simp only [CM.get, h]; exact hm3.own.2
      rw [memL1 rfl (hJ _ _ rfl)] at hML
      have hmL : ∃ c', Mx ML t2 c' := by
        subst hML
        exact ⟨_, hm3.set ⟨hm3.own.1, by rw [CM.get_put, if_pos rfl]⟩⟩
      have hkL : KeepX mB t2 ML := by
        subst hML
        exact hk3.put rfl fun x hx => by rw [CM.get_put, if_neg hx]; rfl
      obtain ⟨c', hmL⟩ := hmL
      refine hmL.store (by omega) fun m4 c4 hn4 hx4 hm4 => ?_
      refine hX _ _ _ ⟨rfl, hkL.put hn4 hx4, ⟨c4, hm4⟩, i + 1, by omega, by simp⟩ ?_
      simp only [List.map_cons, List.map_nil, q48]; omega
  · have hc' : decide ((i : Int) < (l.d.n : Int)) = false := by simpa using hci
    rw [hc', cnd_false]
    clear hX hc' hci hi i q1 q2 q3 q46 q47 q48 g1 g2 g3 g4
    refine loopA_of (fun l0 ds m' => ds = [mark D] ∧ KeepX mB t2 m' ∧ (∃ c, Mx m' t2 c) ∧ ∃ j : Nat, j ≤ 8 ∧ l0 = [.pointer (some ⟨t1, 0, none⟩), .pointer (some ⟨t2, 0, none⟩), .bool false, .int .i64 j])
      (fun l0 _ => match l0 with | [_, _, _, .int _ i] => 8 - i.toNat | _ => 0) ⟨rfl, hk, ⟨c, hm⟩, 0, by omega, rfl⟩ ?_
    clear hk hm c m'
    rintro X4 ρ4 ds m' ⟨rfl, hk, ⟨c, hm⟩, j, hj, hll⟩ hX4
    simp only [List.map_cons, List.map_nil, List.cons.injEq, and_true] at hll
    obtain ⟨q1, q2, q3, q71⟩ := hll
    simp only [q1, q2, q3, q71, cb_lss, pop_some]
    by_cases hcj : j < 8
    · rw [show decide ((j : Int) < (8 : Int)) = true by simpa using (by omega : (j : Int) < 8), cnd_true]
      refine loopA_of (fun l0 ds m' => ds = [mark D] ∧ KeepX mB t2 m' ∧ (∃ c, Mx m' t2 c) ∧ ∃ i : Nat, i ≤ 8 ∧ l0 = [.pointer (some ⟨t1, 0, none⟩), .pointer (some ⟨t2, 0, none⟩), .bool false, .int .i64 j, .int .i64 j, .int .i64 i])
        (fun l0 _ => match l0 with | [_, _, _, _, _, .int _ i] => 8 - i.toNat | _ => 0) ⟨rfl, hk, ⟨c, hm⟩, 0, by omega, rfl⟩ ?_
      clear hk hm c m'
      rintro X5 ρ5 ds m' ⟨rfl, hk, ⟨c, hm⟩, i, hi, hll⟩ hX5
      simp only [List.map_cons, List.map_nil, List.cons.injEq, and_true] at hll
      obtain ⟨r1, r2, r3, r10, r71, r74⟩ := hll
      simp only [r1, r2, r3, r10, r71, r74, cb_lss, pop_some]
      by_cases hci : i < 8
      · have next : ∀ {m3 : CM} {c3 : List Value}, KeepX mB t2 m3 → Mx m3 t2 c3 → j43_2 (RK K Kp) X4 X5 (.int .i64 i) (.pointer (some ⟨t1, 0, none⟩)) (.pointer (some ⟨t2, 0, none⟩)) (.bool false) (.int .i64 j) (.int .i64 j) [mark D] m3 := by
          intro m3 c3 hk3 hm3
          unfold j43_2
          rw [cb_add, pop_some, wrap_id (by omega) (by omega)]
          refine hX5 _ _ _ ⟨rfl, hk3, ⟨c3, hm3⟩, i + 1, by omega, by simp⟩ ?_
          simp only [List.map_cons, List.map_nil, r74]; omega
        rw [show decide ((i : Int) < (8 : Int)) = true by simpa using (by omega : (i : Int) < 8), cnd_true]
        obtain ⟨g1, g2, g3, g4⟩ := facts hk
        simp only [fz78_0, fz24_1, pop_some]
        rw [g2.cel.z ag22 (j := 1) rfl]
        simp only [pop_some]
        rw [g1.d.s.len Try.underlying22]
        simp only [pop_some, cb_gtr]
        clear g1 g2 g3 g4
        cases decide ((l.d.n : Int) < (i : Int))
        case' true =>
          simp only [gb_bool, beq_self_eq_true, gop_true, cb_lss, pop_some, cpick_bool, if_true]
          cases decide ((i : Int) < 7)
          case true => rw [cnd_true]; exact next hk hm
        case' false =>
          simp only [gb_bool, Bool.false_beq, Bool.not_true, gop_false, pop_some, cpick_bool, Bool.false_eq_true, if_false]
        all_goals
          rw [cnd_false]
          refine loopA_of (fun l0 ds m' => ds = [mark D] ∧ KeepX mB t2 m' ∧ (∃ c, Mx m' t2 c) ∧ ∃ k : Nat, k ≤ 8 ∧ l0 = [.pointer (some ⟨t1, 0, none⟩), .pointer (some ⟨t2, 0, none⟩), .bool false, .int .i64 j, .int .i64 i, .int .i64 j, .int .i64 i, .int .i64 k])
            (fun l0 _ => match l0 with | [_, _, _, _, _, _, _, .int _ i] => 8 - i.toNat | _ => 0) ⟨rfl, hk, ⟨c, hm⟩, 0, by omega, rfl⟩ ?_
          clear hk hm c m'
          rintro X6 ρ6 ds m' ⟨rfl, hk, ⟨c, hm⟩, k, hkk, hll⟩ hX6
          simp only [List.map_cons, List.map_nil, List.cons.injEq, and_true] at hll
          obtain ⟨s1, s2, s3, s10, s11, s71, s74, s87⟩ := hll
          simp only [s1, s2, s3, s10, s11, s71, s74, s87, cb_lss, pop_some]
          by_cases hck : k < 8
          · rw [show decide ((k : Int) < (8 : Int)) = true by simpa using (by omega : (k : Int) < 8), cnd_true, cia83 _ _ hci]
            simp only [pop_some]
            rw [cia81 _ _ hck]
            simp only [pop_some]
            rw [cia81 _ _ hcj]
            simp only [pop_some]
            obtain ⟨u1, hu1⟩ := hm.get (p := 0 + i * 8 + j) (by omega)
            rw [ldi hm.own hu1]
            simp only [pop_some]
            rw [cia83 _ _ hcj]
            simp only [pop_some]
            rw [cia81 _ _ hck]
            simp only [pop_some]
            obtain ⟨u2, hu2⟩ := hm.get (p := 0 + j * 8 + k) (by omega)
            rw [ldi hm.own hu2]
            simp only [pop_some, cb_add]
            have hb : cbuildS Try.prog 25 1 [(0, .int .i64 (IntKind.i64.wrap (u1 + u2)))] m' = some (.slice (some ⟨m'.next, 0, none⟩) 1 0, m'.alloc (.cells [.int .i64 (IntKind.i64.wrap (u1 + u2))] 1 true)) := by
              simp [cbuildS, Try.underlying25, sz3, ze3, zeros, cfill, splice, toL]
            rw [hb, vop_some]
            have hle3 : m'.le (m'.alloc (.cells [.int .i64 (IntKind.i64.wrap (u1 + u2))] 1 true)) := ⟨by simp, fun y hy => by rw [CM.get_alloc, if_neg (by omega)]⟩
            refine ⟨hle3, ?_⟩
            generalize hMV : memJ m' _ (fun _ => true) _ = MV
            have hV : (m'.alloc (.cells [.int .i64 (IntKind.i64.wrap (u1 + u2))] 1 true)).le MV := hMV ▸ le_view hle3 rfl fun y => get_over ..
            have hoS : Own MV m'.next [.int .i64 (IntKind.i64.wrap (u1 + u2))] 1 := Own.le ⟨by simp, by rw [CM.get_alloc, if_pos rfl]⟩ hV
            have hmV := hm.le (hle3.trans hV)
            obtain ⟨u3, hu3⟩ := hmV.get (p := 0 + i * 8 + k) (by omega)
            refine least80 (x := IntKind.i64.wrap (u1 + u2)) hmV.own hu3 (.inr (.inl ⟨_, 0, 0, _, true, rfl, hoS.1, hoS.2, fun q hq => ⟨rfl, fun z hz => ?_⟩⟩)) fun m4 n hn4 hx4 ho4 => ?_
            · have hq0 : q = 0 := by omega
              have hz0 : z = 0 := by omega
              subst hq0 hz0
              rfl
            · rw [wrap_id (by omega) (by omega)]
              refine hX6 _ _ _ ⟨rfl, (hk.le (hle3.trans hV)).put hn4 hx4, ⟨_, hmV.set ho4⟩, k + 1, by omega, by simp⟩ ?_
              simp only [List.map_cons, List.map_nil, s87]; omega
          · rw [show decide ((k : Int) < (8 : Int)) = false by simpa using (by omega : ¬ (k : Int) < 8), cnd_false]
            exact next hk hm
      · rw [show decide ((i : Int) < (8 : Int)) = false by simpa using (by omega : ¬ (i : Int) < 8), cnd_false]
        refine ⟨fun l => by simp, ?_⟩
        rw [cb_add, pop_some, wrap_id (by omega) (by omega)]
        refine hX4 _ _ _ ⟨rfl, hk, ⟨c, hm⟩, j + 1, by omega, by simp⟩ ?_
        simp only [List.map_cons, List.map_nil, q71]; omega
    · rw [show decide ((j : Int) < (8 : Int)) = false by simpa using (by omega : ¬ (j : Int) < 8), cnd_false]
      refine loopA_of (fun l0 ds m' => ds = [mark D] ∧ KeepX mB t2 m' ∧ (∃ c, Mx m' t2 c) ∧ ∃ i : Nat, i ≤ 8 ∧ l0 = [.pointer (some ⟨t2, 0, none⟩), .int .i64 i])
        (fun l0 _ => match l0 with | [_, .int _ i] => 8 - i.toNat | _ => 0) ⟨rfl, hk, ⟨c, hm⟩, 0, by omega, rfl⟩ ?_
      clear hk hm c m'
      rintro X7 ρ7 ds m' ⟨rfl, hk, ⟨c, hm⟩, i, hi, hll⟩ hX7
      simp only [List.map_cons, List.map_nil, List.cons.injEq, and_true] at hll
      obtain ⟨r2, r110⟩ := hll
      simp only [r2, r110, cb_lss, pop_some]
      by_cases hci : i < 8
      · rw [show decide ((i : Int) < (8 : Int)) = true by simpa using (by omega : (i : Int) < 8), cnd_true, cia83 _ _ hci, pop_some, cia81 _ _ hci, pop_some]
        obtain ⟨u, hu⟩ := hm.get (p := 0 + i * 8 + i) (by omega)
        rw [ldi hm.own hu, pop_some, cb_lss, pop_some]
        cases decide (u < 0) with
        | true => rw [cnd_true]; exact fin hk hm
        | false =>
          rw [cnd_false, cb_add, pop_some, wrap_id (by omega) (by omega)]
          refine hX7 _ _ _ ⟨rfl, hk, ⟨c, hm⟩, i + 1, by omega, by simp⟩ ?_
          simp only [List.map_cons, List.map_nil, r110]; omega
      · rw [show decide ((i : Int) < (8 : Int)) = false by simpa using (by omega : ¬ (i : Int) < 8), cnd_false]
        exact fin hk hm
end Go.Proofs.Ytbjkpdaigckiiaa.S
end

section
open Go Go.Proofs Go.Proofs.Ytbjkpdaigckiiaa
set_option maxRecDepth 100000
namespace Go.Proofs.Ytbjkpdaigckiiaa.S
set_option maxHeartbeats 1000000 in
/-- close: some numbers, and whether there is a truth. -/
theorem close43 {l : LnD} {m : CM} (hl : l.In m) (hn6 : 1 ≤ l.d.n ∧ l.d.n ≤ 6) (hnn : l.n = l.d.n + 1)
    {K : Value → CM → Prop} {Kp : List PanicEntry → CM → Prop} (hK : ∀ m' c (b : Bool), m.le m' → c.length = 64 → (∀ u ∈ c, ∃ k, u = .int .i64 k) → K (.tuple ⟨[.agg ⟨c⟩, .bool b]⟩) m') :
    callw Try.prog 43 [.agg ⟨l.cells⟩] m K Kp := by
  apply c43
  unfold s43
  refine box_of fun t1 m1 hle1 hb1 ho1 => ?_
  replace ho1 : Own m1 t1 l.cells 0 := ho1
  refine alw_of ze83 fun t2 m2 hle2 hb2 ho2 => ?_
  have h12 : t1 ≠ t2 := by have := ho1.1; omega
  have hle := hle1.trans hle2
  have hm2 : Mx m2 t2 _ := ⟨ho2, rfl, fun u hu => by
    refine ⟨0, ?_⟩
    simp only [List.mem_cons, List.not_mem_nil, or_false] at hu
    simpa using hu⟩
  have ht2 : m.next ≤ t2 := Nat.le_trans hle1.1 hb2
  replace ho1 := ho1.le hle2
  refine loopA_of (fun l0 ds m' => ds = [] ∧ KeepX m2 t2 m' ∧ (∃ c, Mx m' t2 c) ∧ ∃ i : Nat, i ≤ 8 ∧ l0 = [.pointer (some ⟨t1, 0, none⟩), .pointer (some ⟨t2, 0, none⟩), .bool false, .int .i64 i])
    (fun l0 _ => match l0 with | [_, _, _, .int _ i] => 8 - i.toNat | _ => 0) ⟨rfl, .refl m2 t2, ⟨_, hm2⟩, 0, by omega, rfl⟩ ?_
  clear hm2 ho2
  rintro X ρ ds m' ⟨rfl, hk, ⟨c, hm⟩, i, hi, hll⟩ hX
  simp only [List.map_cons, List.map_nil, List.cons.injEq, and_true] at hll
  obtain ⟨q1, q2, q3, q14⟩ := hll
  simp only [q1, q2, q3, q14, cb_lss, pop_some]
  by_cases hci : i < 8
  · rw [show decide ((i : Int) < (8 : Int)) = true by simpa using (by omega : (i : Int) < 8), cnd_true]
    refine loopA_of (fun l0 ds m' => ds = [] ∧ KeepX m2 t2 m' ∧ (∃ c, Mx m' t2 c) ∧ ∃ k : Nat, k ≤ 8 ∧ l0 = [.pointer (some ⟨t1, 0, none⟩), .pointer (some ⟨t2, 0, none⟩), .bool false, .int .i64 i, .int .i64 i, .int .i64 k])
      (fun l0 _ => match l0 with | [_, _, _, _, _, .int _ i] => 8 - i.toNat | _ => 0) ⟨rfl, hk, ⟨c, hm⟩, 0, by omega, rfl⟩ ?_
    clear hk hm c m'
    rintro X2 ρ2 ds m' ⟨rfl, hk, ⟨c, hm⟩, k, hkk, hll⟩ hX2
    simp only [List.map_cons, List.map_nil, List.cons.injEq, and_true] at hll
    obtain ⟨r1, r2, r3, r4, r14, r17⟩ := hll
    simp only [r1, r2, r3, r4, r14, r17, cb_lss, pop_some]
    by_cases hck : k < 8
    · have next : ∀ {m3 : CM} {c3 : List Value}, KeepX m2 t2 m3 → Mx m3 t2 c3 → j43_0 (RK K Kp) X X2 (.int .i64 k) (.pointer (some ⟨t1, 0, none⟩)) (.pointer (some ⟨t2, 0, none⟩)) (.bool false) (.int .i64 i) (.int .i64 i) [] m3 := by
        intro m3 c3 hk3 hm3
        unfold j43_0
        rw [cb_add, pop_some, wrap_id (by omega) (by omega)]
        refine hX2 _ _ _ ⟨rfl, hk3, ⟨c3, hm3⟩, k + 1, by omega, by simp⟩ ?_
        simp only [List.map_cons, List.map_nil, r17]; omega
      rw [show decide ((k : Int) < (8 : Int)) = true by simpa using (by omega : (k : Int) < 8), cnd_true, cb_neq, pop_some]
      cases ((i : Int) != (k : Int)) with
      | false => rw [cnd_false]; exact next hk hm
      | true =>
        rw [cnd_true, cia83 _ _ hci, pop_some, cia81 _ _ hck, pop_some]
        exact hm.store (by omega) fun m3 c3 hn3 hx3 hm3 => next (hk.put hn3 hx3) hm3
    · rw [show decide ((k : Int) < (8 : Int)) = false by simpa using (by omega : ¬ (k : Int) < 8), cnd_false, cb_add, pop_some, wrap_id (by omega) (by omega)]
      refine hX _ _ _ ⟨rfl, hk, ⟨c, hm⟩, i + 1, by omega, by simp⟩ ?_
      simp only [List.map_cons, List.map_nil, q14]; omega
  · rw [show decide ((i : Int) < (8 : Int)) = false by simpa using (by omega : ¬ (i : Int) < 8), cnd_false]
    clear hX
    have ho1' := Own.keepX ho1 hk h12
    have hle' := le_keepX hle hk ht2
    rw [lda ho1' ag78 sz78, pop_some]
    refine points44 fun m3 tP hle3 hbP hoP => ?_
    refine ⟨81, [], [.pointer (some ⟨tP, 0, none⟩)], rfl, ?_⟩
    show callw Try.prog 81 [yv (m3.next + 1), .pointer (some ⟨tP, 0, none⟩)] _ _ _
    replace hle' := hle'.trans hle3
    replace ho1' := ho1'.le hle3
    have h2m := hm.own.1
    replace hm := hm.le hle3
    have hP2 : tP ≠ t2 := by omega
    generalize hD : m3.next = D
    have hPD := hoP.1
    have h1D := ho1'.1
    have h2D := hm.own.1
    have hmD : m.next ≤ D := by have := hle'.1; omega
    let REC : CL := rfRec (A43 ρ [] (.bool false) (.agg ⟨l.cells⟩) (.func (.func 81) ⟨[]⟩ ⟨[.pointer (some ⟨tP, 0, none⟩)]⟩)) #[31, 32] as43_0 bd43_0 D
    refine iter81 (l := l) (t1 := tP) (lp := D + 1) (I := fun _ M => (∀ x, x < D → x ≠ t2 → M.get x = m3.get x) ∧ D + 2 ≤ M.next ∧ M.get D = some .dfr ∧ M.get (D + 1) = some (.loop REC) ∧ ∃ c, Mx M t2 c) hnn hn6.2 ?_ ?_ ?_ ?_ ?_
    · rintro i m4 m5 ⟨g0, g1, g2, g3, c, g4⟩ hle
      exact ⟨fun x h1 h2 => by rw [hle.2 x (by omega)]; exact g0 x h1 h2, by have := hle.1; omega, by rw [hle.2 _ (by omega)]; exact g2, by rw [hle.2 _ (by omega)]; exact g3, c, g4.le hle⟩
    · rintro j M ⟨g0, g1, g2, g3, c, g4⟩
      refine ⟨hl.le ⟨by omega, fun x hx => ?_⟩, ⟨by omega, by rw [g0 tP (by omega) hP2]; exact hoP.2⟩⟩
      rw [g0 x (by omega) (by omega)]; exact hle'.2 x hx
    · rintro j a b M K' ⟨g0, g1, g2, g3, c, g4⟩ hj hkk
      have hj7 : j < 8 := by omega
      refine yield43 g3 ?_
      unfold r43_0
      rw [A43_2, q2]
      refine alw_of ze50 fun t7 m4 hle4 hb7 ho7 => store_own ho7 (by simp [toL, sz50]) (by simp [toL]) rfl fun m5 hn5 hx5 ho7 => ?_
      simp only [toL] at ho7
      have hle5 : M.le m5 := le_of_put hle4 hb7 hn5 hx5
      have hL5 : m5.get (D + 1) = some (.loop REC) := by rw [hle5.2 _ (by omega)]; exact g3
      refine ⟨REC, hL5, rfl, ?_⟩
      generalize hm6 : m5.put (D + 1) (.loop { REC with state := .busy }) = m6
      have hn6' : m6.next = m5.next := by rw [← hm6]; rfl
      have hP : ∀ x, x ≠ D + 1 → m6.get x = m5.get x := fun x hx => by rw [← hm6, CM.get_put, if_neg hx]
      have hL6 : m6.get (D + 1) = some (.loop { REC with state := .busy }) := by rw [← hm6, CM.get_put, if_pos rfl]
      have h5n := hle5.1
      have h2M := g4.own.1
      have o7 : Own m6 t7 [.int .i64 a, .int .i64 b] 0 := ⟨by rw [hn6']; exact ho7.1, by rw [hP _ (by omega)]; exact ho7.2⟩
      have x6 : Mx m6 t2 c := ⟨⟨by omega, by rw [hP _ (by omega), hle5.2 _ h2M]; exact g4.own.2⟩, g4.len, g4.ints⟩
      have ht7 : t7 ≠ t2 := by omega
      simp only [fz50_1, fz50_0, pop_some]
      rw [ldi o7 (j := 1) rfl]
      simp only [pop_some]
      rw [ldi o7 (j := 0) rfl]
      simp only [pop_some, cun_neg]
      rw [cia83 _ _ hj7]
      simp only [pop_some]
      rw [cia81' _ _ (i := 7) (by omega) (by omega)]
      simp only [pop_some]
      refine late_put x6 (by omega) ⟨⟨x6.own.1, ⟨ht7, trivial⟩⟩, by simp, ?_⟩
      rw [cia83' _ _ (i := 7) (by omega) (by omega)]
      simp only [pop_some]
      rw [cia81 _ _ hj7]
      simp only [pop_some]
      generalize hML : memL m6 _ [(9, t2, _)] (fun _ => true) m6.next = ML
      have hJ : ∀ (E : List Ent) (sel : Nat → Bool), (memJ m6 E sel m6.next).t = m6.t → (memJ m6 E sel m6.next).get t2 = some (.cells c 0 true) := fun E sel h => by simp only [CM.get, h]; exact x6.own.2
      rw [memL1 rfl (hJ _ _ rfl)] at hML
      have hmL : ∃ c', Mx ML t2 c' := by
        subst hML
        exact ⟨_, x6.set ⟨x6.own.1, by rw [CM.get_put, if_pos rfl]⟩⟩
      have hgL : ML.next = m6.next ∧ ∀ x, x ≠ t2 → ML.get x = m6.get x := by
        subst hML
        exact ⟨rfl, fun x hx => by rw [CM.get_put, if_neg hx]; rfl⟩
      obtain ⟨c', hmL⟩ := hmL
      refine hmL.store (by omega) fun m7 c7 hn7 hx7 hm7 => ?_
      have hL7 : m7.get (D + 1) = some (.loop { REC with state := .busy }) := by rw [hx7 _ (by omega), hgL.2 _ (by omega)]; exact hL6
      have hgn := hgL.1
      refine ⟨none, _, rfl, hL7, hkk _ ⟨fun x h1 h2 => ?_, by simp only [CM.next_put]; omega, ?_, ?_, c7, ⟨Own.put_ne hm7.own (by omega), hm7.len, hm7.ints⟩⟩⟩
      · rw [CM.get_put, if_neg (by omega), hx7 x h2, hgL.2 x h2, hP x (by omega), hle5.2 x (by omega)]; exact g0 x h1 h2
      · rw [CM.get_put, if_neg (by omega), hx7 _ (by omega), hgL.2 _ (by omega), hP _ (by omega), hle5.2 _ (by omega)]; exact g2
      · rw [CM.get_put, if_pos rfl]; rfl
    · have hA : ∀ x, x < D → ((m3.alloc .dfr).alloc (.loop REC)).get x = m3.get x := fun x hx => by rw [CM.get_alloc, if_neg (by simp; omega), CM.get_alloc, if_neg (by omega)]
      exact ⟨fun x hx _ => hA x hx, by simp only [CM.next_alloc]; omega, by rw [CM.get_alloc, if_neg (by simp only [CM.next_alloc]; omega), CM.get_alloc, if_pos (by omega)], by rw [CM.get_alloc, if_pos (by simp only [CM.next_alloc]; omega)], c, ⟨⟨by simp only [CM.next_alloc]; omega, by rw [hA t2 (by omega)]; exact hm.own.2⟩, hm.len, hm.ints⟩⟩
    · rintro v0 M ⟨g0, g1, g2, g3, c, g4⟩
      refine ⟨REC, g3, (by intro h; cases h), .normal, rfl, ?_⟩
      have hPx : ∀ x, x ≠ D + 1 → (M.put (D + 1) (.loop { REC with state := .exhausted })).get x = M.get x := fun x hx => by rw [CM.get_put, if_neg hx]
      refine j43_ok (l := l) (m0 := m) (mB := M.put (D + 1) (.loop { REC with state := .exhausted })) (D := D) (c0 := c) ⟨by simp only [CM.next_put]; omega, fun x hx => ?_⟩ hl hn6 ⟨by simp only [CM.next_put]; omega, by rw [hPx _ (by omega), g0 t1 (by omega) h12]; exact ho1'.2⟩ ⟨Own.put_ne g4.own (by omega), g4.len, g4.ints⟩ (by rw [hPx _ (by omega)]; exact g2) (by simp only [CM.next_put]; omega) (by omega) h12 ht2 hmD hK
      rw [hPx x (by omega), g0 x (by omega) (by omega)]; exact hle'.2 x hx
end Go.Proofs.Ytbjkpdaigckiiaa.S
end

section
open Go Go.Proofs Go.Proofs.Ytbjkpdaigckiiaa
set_option maxRecDepth 100000
namespace Go.Proofs.Ytbjkpdaigckiiaa.S
def ResV (e : Nat) (m m' : CM) (v : Value) : Prop := ∃ bn cs n, HVe e m' v bn cs n ∧ (∀ y, bn = some y → m.next ≤ y) ∧ n ≤ 100 ∧ (∀ u ∈ cs, ∃ k, u = .int .i64 k)
theorem ResV.nil {e : Nat} {m m' : CM} : ResV e m m' (.slice none 0 0) := ⟨none, [], 0, .nil, fun _ h => by simp at h, by omega, fun _ h => by simp at h⟩
noncomputable abbrev A12 (a0 a1 t2 t4 t11 t13 t14 t15 t6 t17 t20 t21 t22 t23 t7 t25 t26 t27 : Value) : CA := (((((((((((((((((((((((((enterA Try.f12 [a0, a1]).put (some 2) t2).put (some 4) t4).put (some 5) (.int .i64 0)).put (some 11) t11).put (some 12) a1).put (some 13) t13).put (some 10) t13).put (some 14) t14).put (some 15) t15).put (some 6) t6).put (some 5) t15).put (some 16) t15).put (some 17) t17).put (some 20) t20).put (some 21) t21).put (some 19) t21).put (some 22) t22).put (some 23) t23).put (some 7) t7).put (some 8) t23).put (some 24) t23).put (some 25) t25).put (some 26) t26).put (some 27) t27)
section
variable {a0 a1 t2 t4 t11 t13 t14 t15 t6 t17 t20 t21 t22 t23 t7 t25 t26 t27 x0 x1 : Value} {l D : Nat} {m : CM}
theorem yield12 (hl : m.get l = some (.loop (rfRec (A12 a0 a1 t2 t4 t11 t13 t14 t15 t6 t17 t20 t21 t22 t23 t7 t25 t26 t27) #[28, 29] as12_0 bd12_0 D))) {RY : Value → CM → Prop} (h : r12_0 RY l (A12 a0 a1 t2 t4 t11 t13 t14 t15 t6 t17 t20 t21 t22 t23 t7 t25 t26 t27) x0 x1 m) : yieldw Try.prog l [x0, x1] m RY :=
  yield_text mixed (ann := ann12) hl rfl (by kernel_rfl) (by kernel_rfl) (by kernel_rfl) (by rw [er12_0]; exact h)
theorem A12_4 : (A12 a0 a1 t2 t4 t11 t13 t14 t15 t6 t17 t20 t21 t22 t23 t7 t25 t26 t27).ρ 4 = t4 := rfl
theorem A12_7 : (A12 a0 a1 t2 t4 t11 t13 t14 t15 t6 t17 t20 t21 t22 t23 t7 t25 t26 t27).ρ 7 = t7 := rfl
end
theorem all_ints {l : List Value} (h : ∀ x ∈ l, ∃ k, x = .int .i64 k) : l.all one = true := by
  rw [List.all_eq_true]; intro x hx; obtain ⟨k, rfl⟩ := h x hx; rfl
set_option maxHeartbeats 1000000 in
theorem Weights12 {l : LnD} {m : CM} (hl : l.In m) {K : Value → CM → Prop} {Kp : List PanicEntry → CM → Prop}
    (hK : ∀ m' v (c : Int), m.le m' → ResV 2 m m' v → K (.tuple ⟨[v, .int .i64 c]⟩) m') : callw Try.prog 12 [.agg ⟨l.d.cells⟩, l.v] m K Kp := by
  apply c12
  unfold s12
  refine box_of fun t2 m1 hle1 hb2 ho2 => alw_of ze43 fun t4 m2 hle2 hb4 ho4 => ?_
  replace ho2 : Own m1 t2 l.d.cells 0 := ho2
  replace ho2 := ho2.le hle2
  have h4m : m.next ≤ t4 := Nat.le_trans hle1.1 hb4
  have hle := hle1.trans hle2
  have fin : ∀ {m4 : CM} {v v0 : Value} {c : Int}, m.le m4 → Own m4 t4 [v0] 0 → toL v = [v] → (toL v).all one = true → (∀ m5, m5.next = m4.next → (∀ x, x ≠ t4 → m5.get x = m4.get x) → ResV 2 m m5 v) →
      sop (cstore Try.prog 43 (.pointer (some ⟨t4, 0, none⟩)) v m4) (fun _ m => leaveV Try.prog [.c 43 (.pointer (some ⟨t4, 0, none⟩)), .v (.int .i64 c)] [] .ret m (RK K Kp)) := by
    intro m4 v v0 c hl4 ho h1 h2 hr
    refine store_own ho (by rw [h1]; exact sz43) (by rw [h1]; rfl) h2 fun m5 hn5 hx5 ho5 => ?_
    rw [h1] at ho5
    show pop (cload Try.prog 43 (.pointer (some ⟨t4, 0, none⟩)) m5) m5 _
    rw [ho5.cel.z ag43 (j := 0) rfl, pop_some]
    exact hK m5 _ c (le_of_put hl4 h4m hn5 hx5) (hr m5 hn5 hx5)
  rw [lda ho2 ag24 sz24, pop_some]
  refine open42 (hl.le hle) fun m3 cl e hle3 hc3 hc1 he => ?_
  replace hle := hle.trans hle3
  replace ho4 := ho4.le hle3
  have h4l := ho4.1
  simp only [cext, List.getElem?_cons_zero, List.getElem?_cons_succ, pop_some, cb_neq]
  refine alw_of ze78 fun t6 m4 hle4 hb6 ho6 => store_own ho6 (by simp only [toL]; rw [hc3]; exact sz78) (by simp [toL, hc3]) hc1 fun m5 hn5 hx5 ho6 => ?_
  simp only [toL] at ho6
  have hle5 := le_of_put hle4 hb6 hn5 hx5
  replace hle := hle.trans hle5
  replace ho4 := ho4.le hle5
  have h46 : t4 ≠ t6 := by omega
  cases hee : (e != 0) with
  | true => rw [cnd_true]; exact fin hle ho4 rfl rfl fun _ _ _ => .nil
  | false =>
  have he0 : e = 0 := by simpa using hee
  subst he0
  obtain ⟨rfl, hn6, hnn⟩ := he rfl
  rw [cnd_false, lda ho6 ag78 sz78, pop_some]
  refine close43 (hl.le hle) hn6 hnn fun m6 cm b hle6 hcl hci => ?_
  replace hle := hle.trans hle6
  replace ho4 := ho4.le hle6
  have h4l6 := ho4.1
  replace ho6 := ho6.le hle6
  simp only [List.getElem?_cons_zero, List.getElem?_cons_succ, pop_some]
  refine alw_of ze83 fun t7 m7 hle7 hb7 ho7 => store_own ho7 (by simp only [toL]; rw [hcl]; exact sz83) (by simp only [toL]; rw [hcl]; rfl) (all_ints hci) fun m8 hn8 hx8 ho7 => ?_
  simp only [toL] at ho7
  have hle8 := le_of_put hle7 hb7 hn8 hx8
  replace hle := hle.trans hle8
  replace ho4 := ho4.le hle8
  replace ho6 := ho6.le hle8
  have h47 : t4 ≠ t7 := by omega
  rw [cun_not, pop_some]
  cases b with
  | false => rw [show (!false) = true from rfl, cnd_true]; exact fin hle ho4 rfl rfl fun _ _ _ => .nil
  | true =>
  rw [show (!true) = false from rfl, cnd_false, lda ho6 ag78 sz78, pop_some]
  refine points44 fun m9 tP hle9 hbP hoP => ?_
  refine ⟨81, [], [.pointer (some ⟨tP, 0, none⟩)], rfl, ?_⟩
  show callw Try.prog 81 [yv (m9.next + 1), .pointer (some ⟨tP, 0, none⟩)] _ _ _
  replace hle := hle.trans hle9
  have h4P : tP ≠ t4 := by have := ho4.1; omega
  replace ho4 := ho4.le hle9
  have hMx : Mx m9 t7 cm := ⟨ho7.le hle9, hcl, hci⟩
  generalize hD : m9.next = D
  have hPD := hoP.1
  have h4D := ho4.1
  have h7D := hMx.own.1
  have hmD : m.next ≤ D := by have := hle.1; omega
  let REC : CL := rfRec (A12 (.agg ⟨l.d.cells⟩) l.v (.pointer (some ⟨t2, 0, none⟩)) (.pointer (some ⟨t4, 0, none⟩)) (.agg ⟨l.d.cells⟩) (.tuple ⟨[.agg ⟨l.cells⟩, .int .i64 0]⟩) (.agg ⟨l.cells⟩) (.int .i64 0) (.pointer (some ⟨t6, 0, none⟩)) (.bool false) (.agg ⟨l.cells⟩) (.tuple ⟨[.agg ⟨cm⟩, .bool true]⟩) (.agg ⟨cm⟩) (.bool true) (.pointer (some ⟨t7, 0, none⟩)) (.bool false) (.agg ⟨l.cells⟩) (.func (.func 81) ⟨[]⟩ ⟨[.pointer (some ⟨tP, 0, none⟩)]⟩)) #[28, 29] as12_0 bd12_0 D
  refine iter81 (l := l) (t1 := tP) (lp := D + 1) (I := fun i M => D + 2 ≤ M.next ∧ (∀ x, x < D → x ≠ t4 → M.get x = m9.get x) ∧ M.get D = some .dfr ∧ M.get (D + 1) = some (.loop REC) ∧ ∃ v bn cs, Own M t4 [v] 0 ∧ (∃ n, n ≤ i ∧ HVe 2 M v bn cs n) ∧ (∀ y, bn = some y → D + 2 ≤ y) ∧ (∀ u ∈ cs, ∃ k, u = .int .i64 k)) hnn hn6.2 ?_ ?_ ?_ ?_ ?_
  · rintro i m4 m5 ⟨g0, g1, g2, g3, v, bn, cs, g4, ⟨n, gn, g5⟩, g6, g7⟩ hle
    exact ⟨by have := hle.1; omega, fun x h1 h2 => by rw [hle.2 x (by omega)]; exact g1 x h1 h2, by rw [hle.2 _ (by omega)]; exact g2, by rw [hle.2 _ (by omega)]; exact g3, v, bn, cs, g4.le hle, ⟨n, gn, g5.le hle⟩, g6, g7⟩
  · rintro j M ⟨g0, g1, g2, g3, _⟩
    refine ⟨hl.le ⟨by omega, fun x hx => ?_⟩, ⟨by omega, by rw [g1 tP (by omega) h4P]; exact hoP.2⟩⟩
    rw [g1 x (by omega) (by omega)]; exact hle.2 x hx
  · rintro j a b M K' ⟨g0, g1, g2, g3, v, bn, cs, g4, ⟨n, gn, g5⟩, g6, g7⟩ hj hkk
    have hj7 : j < 8 := by omega
    refine yield12 g3 ?_
    unfold r12_0
    refine ⟨REC, g3, rfl, ?_⟩
    generalize hm6 : M.put (D + 1) (.loop { REC with state := .busy }) = m10
    have hn10 : m10.next = M.next := by rw [← hm6]; rfl
    have hP : ∀ x, x ≠ D + 1 → m10.get x = M.get x := fun x hx => by rw [← hm6, CM.get_put, if_neg hx]
    have hL10 : m10.get (D + 1) = some (.loop { REC with state := .busy }) := by rw [← hm6, CM.get_put, if_pos rfl]
    have o4 : Own m10 t4 [v] 0 := ⟨by rw [hn10]; exact g4.1, by rw [hP _ (by omega)]; exact g4.2⟩
    have x7 : Mx m10 t7 cm := ⟨⟨by omega, by rw [hP _ (by omega), g1 t7 (by omega) (Ne.symm h47)]; exact hMx.own.2⟩, hcl, hci⟩
    have v10 : HVe 2 m10 v bn cs n := g5.of_get (by omega) fun y hy => hP y (by have := g6 y hy; omega)
    rw [A12_4, A12_7, o4.cel.z ag43 (j := 0) rfl]
    simp only [pop_some]
    rw [cia83' _ _ (i := 7) (by omega) (by omega)]
    simp only [pop_some]
    rw [cia81 _ _ hj7]
    simp only [pop_some]
    obtain ⟨u1, hu1⟩ := x7.get (p := 0 + 7 * 8 + j) (by omega)
    rw [ldi x7.own hu1]
    simp only [pop_some, cun_neg]
    rw [cia83 _ _ hj7]
    simp only [pop_some]
    rw [cia81' _ _ (i := 7) (by omega) (by omega)]
    simp only [pop_some]
    obtain ⟨u2, hu2⟩ := x7.get (p := 0 + j * 8 + 7) (by omega)
    rw [ldi x7.own hu2]
    simp only [pop_some]
    rw [hcb50]
    simp only [pop_some]
    refine appJ (e := 1) (by omega) Try.underlying43 sz50 ze50 rfl ap43 by50 (by decide) (by decide) v10 rfl rfl (by unfold lim; omega) (fun _ _ => rfl) (fun t m1 y => get_over ..) fun m11 hn11 hg11 ho11 => ?_
    have hbn4 : bn ≠ some t4 := fun e => by have := g6 _ e; omega
    have o4' : Own m11 t4 [v] 0 := ⟨by omega, by rw [hg11 t4 (by omega) hbn4]; exact o4.2⟩
    refine store_own o4' (by simp [toL, sz43]) (by simp [toL]) rfl fun m12 hn12 hx12 ho12 => ?_
    simp only [toL] at ho12
    have hold : ∀ x, x < D + 2 → x ≠ t4 → m12.get x = m10.get x := fun x h1 h2 => by rw [hx12 x h2, hg11 x (by omega) (fun e => by have := g6 x e; omega)]
    have hL12 : m12.get (D + 1) = some (.loop { REC with state := .busy }) := by rw [hold _ (by omega) (by omega)]; exact hL10
    refine ⟨none, _, rfl, hL12, hkk _ ⟨by simp only [CM.next_put]; omega, fun x h1 h2 => ?_, ?_, ?_, .slice (some ⟨m10.next + 1, 0, none⟩) (n + 1) 0, some (m10.next + 1), _, Own.put_ne ho12 (by omega), ⟨n + 1, by omega, (HVe.blk ho11 (by have := v10.len; simp [toL]; omega)).of_get (by simp only [CM.next_put]; omega) fun y hy => by cases hy; rw [CM.get_put, if_neg (by omega), hx12 _ (by omega)]⟩, fun y hy => by cases hy; omega, fun u hu => ?_⟩⟩
    · rw [CM.get_put, if_neg (by omega), hold x (by omega) h2, hP x (by omega)]; exact g1 x h1 h2
    · rw [CM.get_put, if_neg (by omega), hold _ (by omega) (by omega), hP _ (by omega)]; exact g2
    · rw [CM.get_put, if_pos rfl]; rfl
    · simp only [List.mem_append, toL, List.mem_cons, List.not_mem_nil, or_false] at hu
      rcases hu with hu | rfl | rfl
      · exact g7 u hu
      · exact ⟨_, rfl⟩
      · exact ⟨_, rfl⟩
  · have hA : ∀ x, x < D → ((m9.alloc .dfr).alloc (.loop REC)).get x = m9.get x := fun x hx => by rw [CM.get_alloc, if_neg (by simp; omega), CM.get_alloc, if_neg (by omega)]
    exact ⟨by simp only [CM.next_alloc]; omega, fun x hx _ => hA x hx, by rw [CM.get_alloc, if_neg (by simp only [CM.next_alloc]; omega), CM.get_alloc, if_pos (by omega)], by rw [CM.get_alloc, if_pos (by simp only [CM.next_alloc]; omega)], _, none, [], ⟨by simp only [CM.next_alloc]; omega, by rw [hA t4 (by omega)]; exact ho4.2⟩, ⟨0, by omega, .nil⟩, fun _ h => by simp at h, fun _ h => by simp at h⟩
  · rintro v0 M ⟨g0, g1, g2, g3, v, bn, cs, g4, ⟨n, gn, g5⟩, g6, g7⟩
    refine ⟨REC, g3, (by intro h; cases h), .normal, rfl, ?_⟩
    have hPx : ∀ x, x ≠ D + 1 → (M.put (D + 1) (.loop { REC with state := .exhausted })).get x = M.get x := fun x hx => by rw [CM.get_put, if_neg hx]
    generalize hMM : M.put (D + 1) (.loop { REC with state := .exhausted }) = M2 at hPx
    have hMn : M2.next = M.next := by rw [← hMM]; rfl
    have o4 : Own M2 t4 [v] 0 := ⟨by rw [hMn]; exact g4.1, by rw [hPx _ (by omega)]; exact g4.2⟩
    show j12_0 _ _ _ _
    unfold j12_0
    obtain ⟨e1, e2⟩ := g5.toL1
    rw [o4.cel.z ag43 (j := 0) rfl, pop_some]
    refine store_own o4 (by rw [e1]; exact sz43) (by rw [e1]) e2 fun m5 hn5 hx5 ho5 => ?_
    rw [e1] at ho5
    show leaveV Try.prog _ ([D].map mark) .ret m5 _
    refine leave_marks (fun E hE => ?_) (by simp) fun m6 hn6' hx6 => ?_
    · simp at hE; subst hE; rw [hx5 _ (by omega), hPx _ (by omega)]; exact g2
    · have ho6 : Own m6 t4 [v] 0 := ⟨by rw [hn6']; exact ho5.1, by rw [hx6 t4 (by simp; omega)]; exact ho5.2⟩
      show pop (cload Try.prog 43 (.pointer (some ⟨t4, 0, none⟩)) m6) m6 _
      rw [ho6.cel.z ag43 (j := 0) rfl, pop_some]
      have hall : ∀ x, x ≠ t4 → x ≠ D → x ≠ D + 1 → m6.get x = M.get x := fun x h1 h2 h3 => by rw [hx6 x (by simp; exact h2), hx5 x h1, hPx x h3]
      refine hK m6 v 0 ⟨by omega, fun y hy => ?_⟩ ⟨bn, cs, n, g5.of_get (by omega) fun y hy => ?_, fun y hy => by have := g6 y hy; omega, by omega, g7⟩
      · rw [hall y (by omega) (by omega) (by omega), g1 y (by omega) (by omega)]; exact hle.2 y hy
      · have := g6 y hy; exact hall y (by omega) (by omega) (by omega)
end Go.Proofs.Ytbjkpdaigckiiaa.S
end

section
open Go Go.Proofs Go.Proofs.Ytbjkpdaigckiiaa
set_option maxRecDepth 100000
namespace Go.Proofs.Ytbjkpdaigckiiaa.S
theorem readSl {m : CM} {v : Value} {n : Nat} {x : Nat → Int} (hs : Sl 1 m v n (fun j => [.int .i64 (x j)])) (hn : 0 < n) : readS m v 1 n = some ((List.range n).map fun i => .int .i64 (x i)) := by
  rcases hs with ⟨_, h⟩ | ⟨b, o, k, c, own, rfl, h1, h2, h3⟩ | ⟨_, _, _, h⟩
  · omega
  · have hv : (c.drop o).take n = (List.range n).map fun i => .int .i64 (x i) := by
      apply List.ext_getElem?
      intro i
      rw [List.getElem?_take, List.getElem?_drop, List.getElem?_map]
      by_cases hi : i < n
      · rw [if_pos hi, List.getElem?_range hi]
        have := (h3 i hi).2 0 (by omega)
        simpa using this
      · rw [if_neg hi, List.getElem?_eq_none (by simp; omega)]
        rfl
    simp only [readS, h2, Nat.mul_one, hv]
    simp
  · omega
theorem ints_range {n : Nat} {x : Nat → Int} : ((List.range n).map fun i => Value.int .i64 (x i)).all one = true := by
  rw [List.all_eq_true]; intro u hu; rw [List.mem_map] at hu; obtain ⟨i, _, rfl⟩ := hu; rfl
theorem without49 {l : LnD} {m : CM} (hl : l.In m) (hn : 0 < l.n) (hn8 : l.n ≤ 100) {p : Int} (hp : 0 ≤ p ∧ p < l.n) {K : Value → CM → Prop} {Kp : List PanicEntry → CM → Prop}
    (hK : ∀ m' (l' : LnD), m.le m' → l'.d = l.d → l'.n = l.n → l'.In m' → K (.agg ⟨l'.cells⟩) m') : callw Try.prog 49 [.agg ⟨l.cells⟩, .int .i64 p] m K Kp := by
  obtain ⟨k, rfl⟩ : ∃ k : Nat, p = k := ⟨p.toNat, by omega⟩
  apply c49
  unfold s49
  refine box_of fun t2 m1 hle1 hb2 ho2 => alw_of ze78 fun t4 m2 hle2 hb4 ho4 => ?_
  replace ho2 : Own m1 t2 l.cells 0 := ho2
  have h24 : t2 ≠ t4 := by have := ho2.1; omega
  replace ho2 := ho2.le hle2
  have hle := hle1.trans hle2
  have h4l := ho4.1
  simp only [fz78_1, pop_some]
  rw [ho2.cel.z ag25 (j := 2) rfl]
  simp only [pop_some]
  rw [hl.s.len Try.underlying25]
  simp only [pop_some]
  have hmk : cmakeS Try.prog 25 (.int .i64 l.n) (.int .i64 l.n) m2 = some (.slice (some ⟨m2.next, 0, none⟩) l.n 0, m2.alloc (.cells (zeros [.int .i64 0] l.n) 1 true)) := by
    have : (bytesOf' Try.prog 3 : Int) * l.n ≤ 2 ^ 48 := by rw [by3]; omega
    simp only [cmakeS, Try.underlying25, sz3, ze3]
    rw [if_pos ⟨rfl, by omega, by omega, by omega, this⟩]
    simp
  rw [hmk, vop_some]
  generalize hbM : m2.next = bM
  generalize hm3 : m2.alloc (.cells (zeros [.int .i64 0] l.n) 1 true) = m3
  have hle3 : m2.le m3 := by subst hm3; exact ⟨by simp, fun y hy => by rw [CM.get_alloc, if_neg (by omega)]⟩
  have hoM : Own m3 bM (zeros [.int .i64 0] l.n) 1 := by subst hm3; exact ⟨by simp; omega, by rw [CM.get_alloc, if_pos hbM.symm]⟩
  have ho2' := ho2.le hle3
  rw [ho2'.cel.z ag25 (j := 2) rfl]
  simp only [pop_some]
  have hzl : (zeros [Value.int .i64 0] l.n).length = l.n := by rw [zeros_length]; simp
  generalize hvs : ((List.range l.n).map fun i => Value.int .i64 (l.x i)) = vs
  have hvl : vs.length = l.n := by subst hvs; simp
  have hv1 : vs.all one = true := by subst hvs; exact ints_range
  have hvi : ∀ i, i < l.n → vs[i]? = some (.int .i64 (l.x i)) := fun i hi => by subst hvs; simp [hi]
  have hlv : lenV l.v = some l.n := by
    rcases hl.s with ⟨h, h'⟩ | ⟨b, o, k, c, own, h, _⟩ | ⟨b, h, _, h'⟩
    · rw [h]; simp [lenV]; omega
    · rw [h]; rfl
    · rw [h]; simp [lenV]; omega
  have hcp : ccopy Try.prog [25, 25] (.slice (some ⟨bM, 0, none⟩) l.n 0) l.v m3 = some (goInt l.n, m3.put bM (.cells vs 1 true)) := by
    have hr := readSl (hl.s.le (hle.trans hle3)) hn
    rw [hvs] at hr
    have hst : cstoreL bM 0 vs m3 = some (m3.put bM (.cells vs 1 true)) := by
      have hsp : splice (zeros [Value.int .i64 0] l.n) 0 vs = vs := by
        have hd : (zeros [Value.int .i64 0] l.n).drop vs.length = [] := List.drop_eq_nil_of_le (by omega)
        simp [splice, hd]
      simp only [cstoreL, hoM.2, hzl, hvl]
      rw [hsp]
      simp [hv1]
    have hld : lenV (.slice (some ⟨bM, 0, none⟩) l.n 0) = some l.n := rfl
    simp only [ccopy, Try.underlying25, sz3, hlv, hld, Nat.min_self, hr, hst]
  rw [hcp, vop_some]
  generalize hm4 : m3.put bM (.cells vs 1 true) = m4
  have hle4 : m2.le m4 := by
    subst hm4
    exact ⟨hle3.1, fun y hy => by rw [CM.get_put, if_neg (by omega)]; exact hle3.2 y hy⟩
  have hoM4 : Own m4 bM vs 1 := by subst hm4; exact ⟨hoM.1, by rw [CM.get_put, if_pos rfl]⟩
  have hia : cia Try.prog 25 (.slice (some ⟨bM, 0, none⟩) l.n 0) (.int .i64 k) = some (.pointer (some ⟨bM, k, none⟩)) := by
    have : k < l.n := by omega
    simp [cia, Try.underlying25, sz3]; omega
  rw [hia, pop_some]
  have hkl : k < l.n := by omega
  refine hoM4.store (by simp [toL, sz3]) (by simp [toL]; omega) rfl fun m5 hn5 hx5 hoM5 => ?_
  simp only [toL] at hoM5
  rw [splice_set (by omega)] at hoM5
  have hle5 : m2.le m5 := le_of_put hle4 (by omega) hn5 hx5
  have h2M : t2 < bM := by have := ho2.1; omega
  refine (ho2.le hle5).store (by simp [toL, sz25]) (by simp [toL, LnD.cells]) rfl fun m6 hn6 hx6 ho6 => ?_
  let l' : LnD := { l with v := .slice (some ⟨bM, 0, none⟩) l.n 0, x := fun i => if i = k then -1 else l.x i }
  replace ho6 : Own m6 t2 l'.cells 0 := ho6
  rw [lda ho6 ag78 sz78, pop_some]
  have ho46 : Own m6 t4 [.int .i64 0, .slice none 0 0, .slice none 0 0] 0 := ⟨by rw [hn6]; exact (ho4.le hle5).1, by rw [hx6 t4 (Ne.symm h24)]; exact (ho4.le hle5).2⟩
  have hl1 : l'.cells.all one = true := by
    have e2 := Sl.one hl.d.s
    simp only [LnD.cells, List.all_cons, List.all_nil, Bool.and_true]
    show (one (.int .i64 l.d.err) && (one l.d.v && true)) = true
    rw [e2]; rfl
  refine store_own ho46 (by simp only [toL]; exact sz78) rfl hl1 fun m7 hn7 hx7 ho7 => ?_
  simp only [toL] at ho7
  show pop (cload Try.prog 78 (.pointer (some ⟨t4, 0, none⟩)) m7) m7 _
  rw [lda ho7 ag78 sz78, pop_some]
  have hle7 : m.le m7 := ⟨by have := hle.1; have := hle5.1; omega, fun y hy => by
    have := hle.1
    have := hle1.1
    rw [hx7 y (by omega), hx6 y (by omega), hle5.2 y (by omega)]; exact hle.2 y hy⟩
  refine hK m7 l' hle7 rfl rfl ⟨hl.d.le hle7, .inr (.inl ⟨bM, 0, 0, _, true, rfl, by have := hoM5.1; omega, by rw [hx7 bM (by omega), hx6 bM (by omega)]; exact hoM5.2, fun i hi => ⟨rfl, fun j hj => ?_⟩⟩), hl.n0⟩
  have hj0 : j = 0 := by omega
  subst hj0
  have hil : i < l.n := hi
  show (vs.set k (.int .i64 (-1)))[0 + i * 1 + 0]? = some (Value.int .i64 (if i = k then -1 else l.x i))
  rw [show 0 + i * 1 + 0 = i by omega, List.getElem?_set]
  by_cases hik : i = k
  · subst hik; simp; omega
  · rw [if_neg (Ne.symm hik), if_neg hik]; exact hvi i hil
end Go.Proofs.Ytbjkpdaigckiiaa.S
end

section
open Go Go.Proofs Go.Proofs.Ytbjkpdaigckiiaa
set_option maxRecDepth 100000
namespace Go.Proofs.Ytbjkpdaigckiiaa.S
theorem fin50 {m m4 : CM} {t : Nat} {a b c : Int} {c0 : List Value} {K : Value → CM → Prop} {Kp : List PanicEntry → CM → Prop} (hl4 : m.le m4) (ht : m.next ≤ t) (ho : Own m4 t c0 0) (hc : c0.length = 2)
    (hK : ∀ m' (a b c : Int), m.le m' → K (.tuple ⟨[.agg ⟨[.int .i64 a, .int .i64 b]⟩, .int .i64 c]⟩) m') :
    sop (cstore Try.prog 50 (.pointer (some ⟨t, 0, none⟩)) (.agg ⟨[.int .i64 a, .int .i64 b]⟩) m4) (fun _ m => leaveV Try.prog [.c 50 (.pointer (some ⟨t, 0, none⟩)), .v (.int .i64 c)] [] .ret m (RK K Kp)) := by
  refine store_own ho (by simp only [toL]; exact sz50) (by simp only [toL]; rw [hc]; rfl) rfl fun m5 hn5 hx5 ho5 => ?_
  simp only [toL] at ho5
  show pop (cload Try.prog 50 (.pointer (some ⟨t, 0, none⟩)) m5) m5 _
  rw [lda ho5 ag50 sz50, pop_some]
  exact hK m5 a b c (le_of_put hl4 ht hn5 hx5)
theorem Lost17 {l : LnD} {m : CM} (hl : l.In m) {p q : Int} {K : Value → CM → Prop} {Kp : List PanicEntry → CM → Prop}
    (hK : ∀ m' (a b c : Int), m.le m' → K (.tuple ⟨[.agg ⟨[.int .i64 a, .int .i64 b]⟩, .int .i64 c]⟩) m') : callw Try.prog 17 [.agg ⟨l.d.cells⟩, l.v, .int .i64 p, .int .i64 q] m K Kp := by
  apply c17
  unfold s17
  refine box_of fun t4 m1 hle1 hb4 ho4 => alw_of ze50 fun t8 m2 hle2 hb8 ho8 => ?_
  replace ho4 : Own m1 t4 l.d.cells 0 := ho4
  replace ho4 := ho4.le hle2
  have h8m : m.next ≤ t8 := Nat.le_trans hle1.1 hb8
  have hle := hle1.trans hle2
  rw [lda ho4 ag24 sz24, pop_some]
  refine open42 (hl.le hle) fun m3 cl e hle3 hc3 hc1 he => ?_
  replace hle := hle.trans hle3
  replace ho8 := ho8.le hle3
  have h8l := ho8.1
  simp only [cext, List.getElem?_cons_zero, List.getElem?_cons_succ, pop_some, cb_neq]
  refine alw_of ze78 fun t6 m4 hle4 hb6 ho6 => store_own ho6 (by simp only [toL]; rw [hc3]; exact sz78) (by simp [toL, hc3]) hc1 fun m5 hn5 hx5 ho6 => ?_
  simp only [toL] at ho6
  have hle5 := le_of_put hle4 hb6 hn5 hx5
  replace hle := hle.trans hle5
  replace ho8 := ho8.le hle5
  cases hee : (e != 0) with
  | true => rw [cnd_true, lda ho8 ag50 sz50, pop_some]; exact fin50 hle h8m ho8 rfl hK
  | false =>
  have he0 : e = 0 := by simpa using hee
  subst he0
  obtain ⟨rfl, hn6, hnn⟩ := he rfl
  have hlc : (l.cells)[1]? = some l.d.v := rfl
  simp only [cnd_false, fz78_0, fz24_1, fa24_1, Nat.reduceAdd, pop_some]
  rw [ho6.cel.z ag22 (j := 1) hlc]
  simp only [pop_some]
  rw [(hl.le hle).d.s.len Try.underlying22]
  simp only [pop_some]
  refine out_2 fun b m7 hle7 hb => ?_
  replace hle := hle.trans hle7
  replace ho8 := ho8.le hle7
  replace ho6 := ho6.le hle7
  cases b with
  | true =>
    simp only [gb_bool, Bool.true_beq, gop_false, cpick_bool, if_true, pop_some, cnd_true]
    rw [lda ho8 ag50 sz50, pop_some]; exact fin50 hle h8m ho8 rfl hK
  | false =>
  obtain ⟨⟨hp0, hp1⟩, hq0, hq1⟩ := hb rfl
  obtain ⟨p, rfl⟩ : ∃ k : Nat, p = k := ⟨p.toNat, by omega⟩
  obtain ⟨q, rfl⟩ : ∃ k : Nat, q = k := ⟨q.toNat, by omega⟩
  simp only [gb_bool, Bool.false_beq, Bool.not_false, gop_true, cb_geq, cpick_bool, Bool.false_eq_true, if_false, pop_some]
  cases hpq : decide ((q : Int) ≤ (p : Int)) with
  | true => rw [cnd_true, lda ho8 ag50 sz50, pop_some]; exact fin50 hle h8m ho8 rfl hK
  | false =>
  rw [cnd_false, lda ho6 ag78 sz78, pop_some]
  refine close43 (hl.le hle) hn6 hnn fun m9 cm b hle9 hcl hci => ?_
  replace hle := hle.trans hle9
  replace ho8 := ho8.le hle9
  simp only [List.getElem?_cons_zero, List.getElem?_cons_succ, pop_some]
  refine alw_of ze83 fun t7 m10 hle10 hb7 ho7 => store_own ho7 (by simp only [toL]; rw [hcl]; exact sz83) (by simp only [toL]; rw [hcl]; rfl) (all_ints hci) fun m11 hn11 hx11 ho7 => ?_
  simp only [toL] at ho7
  have hle11 := le_of_put hle10 hb7 hn11 hx11
  replace hle := hle.trans hle11
  replace ho8 := ho8.le hle11
  rw [cun_not, pop_some]
  cases b with
  | false => rw [show (!false) = true from rfl, cnd_true, lda ho8 ag50 sz50, pop_some]; exact fin50 hle h8m ho8 rfl hK
  | true =>
  have x7 : Mx m11 t7 cm := ⟨ho7, hcl, hci⟩
  rw [show (!true) = false from rfl, cnd_false, cia83 _ _ (i := q) (by omega)]
  simp only [pop_some]
  rw [cia81 _ _ (i := p) (by omega)]
  simp only [pop_some]
  obtain ⟨u1, hu1⟩ := x7.get (p := 0 + q * 8 + p) (by omega)
  rw [ldi x7.own hu1]
  simp only [pop_some, cun_neg]
  rw [cia83 _ _ (i := p) (by omega)]
  simp only [pop_some]
  rw [cia81 _ _ (i := q) (by omega)]
  simp only [pop_some]
  obtain ⟨u2, hu2⟩ := x7.get (p := 0 + p * 8 + q) (by omega)
  rw [ldi x7.own hu2]
  simp only [pop_some]
  rw [hcb50]
  simp only [pop_some]
  exact fin50 hle h8m ho8 rfl hK
theorem Off25 {l : LnD} {m : CM} (hl : l.In m) {p : Int} {K : Value → CM → Prop} {Kp : List PanicEntry → CM → Prop}
    (hK : ∀ m' (a b c : Int), m.le m' → K (.tuple ⟨[.agg ⟨[.int .i64 a, .int .i64 b]⟩, .int .i64 c]⟩) m') : callw Try.prog 25 [.agg ⟨l.d.cells⟩, l.v, .int .i64 p] m K Kp := by
  apply c25
  unfold s25
  refine box_of fun t4 m1 hle1 hb4 ho4 => alw_of ze50 fun t8 m2 hle2 hb8 ho8 => ?_
  replace ho4 : Own m1 t4 l.d.cells 0 := ho4
  replace ho4 := ho4.le hle2
  have h8m : m.next ≤ t8 := Nat.le_trans hle1.1 hb8
  have hle := hle1.trans hle2
  rw [lda ho4 ag24 sz24, pop_some]
  refine open42 (hl.le hle) fun m3 cl e hle3 hc3 hc1 he => ?_
  replace hle := hle.trans hle3
  replace ho8 := ho8.le hle3
  have h8l := ho8.1
  simp only [cext, List.getElem?_cons_zero, List.getElem?_cons_succ, pop_some, cb_neq]
  refine alw_of ze78 fun t6 m4 hle4 hb6 ho6 => store_own ho6 (by simp only [toL]; rw [hc3]; exact sz78) (by simp [toL, hc3]) hc1 fun m5 hn5 hx5 ho6 => ?_
  simp only [toL] at ho6
  have hle5 := le_of_put hle4 hb6 hn5 hx5
  replace hle := hle.trans hle5
  replace ho8 := ho8.le hle5
  cases hee : (e != 0) with
  | true => rw [cnd_true, lda ho8 ag50 sz50, pop_some]; exact fin50 hle h8m ho8 rfl hK
  | false =>
  have he0 : e = 0 := by simpa using hee
  subst he0
  obtain ⟨rfl, hn6, hnn⟩ := he rfl
  have hlc : (l.cells)[1]? = some l.d.v := rfl
  simp only [cnd_false, fz78_0, fz24_1, fa24_1, Nat.reduceAdd, pop_some]
  rw [ho6.cel.z ag22 (j := 1) hlc]
  simp only [pop_some]
  rw [(hl.le hle).d.s.len Try.underlying22]
  simp only [pop_some]
  refine out_1 fun b m7 hle7 hb => ?_
  replace hle := hle.trans hle7
  replace ho8 := ho8.le hle7
  replace ho6 := ho6.le hle7
  cases b with
  | true =>
    simp only [gb_bool, Bool.true_beq, gop_false, cpick_bool, if_true, pop_some, cnd_true]
    rw [lda ho8 ag50 sz50, pop_some]; exact fin50 hle h8m ho8 rfl hK
  | false =>
  obtain ⟨hp0, hp1⟩ := hb rfl
  obtain ⟨p, rfl⟩ : ∃ k : Nat, p = k := ⟨p.toNat, by omega⟩
  have hpn : p < l.n := by omega
  obtain ⟨bx, ox, hia, hcel, hlen⟩ := (hl.le hle).s.at Try.underlying25 sz3 (i := p) (by omega) (by omega)
  simp only [Int.toNat_natCast] at hcel hlen
  have hld : cload Try.prog 3 (.pointer (some ⟨bx, ox, none⟩)) m7 = some (.int .i64 (l.x p)) := hcel.elv ag3 sz3 hlen (by decide)
  simp only [gb_bool, Bool.false_beq, Bool.not_false, gop_true, hia, pop_some, hld, cb_eql, cpick_bool, Bool.false_eq_true, if_false]
  cases hpq : (l.x p == -1) with
  | true => rw [cnd_true, lda ho8 ag50 sz50, pop_some]; exact fin50 hle h8m ho8 rfl hK
  | false =>
  rw [cnd_false, lda ho6 ag78 sz78, pop_some]
  refine without49 (hl.le hle) (by omega) (by omega) (p := p) (by omega) fun m8 l' hle8 hd' hn' hl' => ?_
  replace hle := hle.trans hle8
  replace ho8 := ho8.le hle8
  refine close43 hl' (by rw [hd']; exact hn6) (by rw [hd', hn']; exact hnn) fun m9 cm b hle9 hcl hci => ?_
  replace hle := hle.trans hle9
  replace ho8 := ho8.le hle9
  simp only [List.getElem?_cons_zero, List.getElem?_cons_succ, pop_some]
  refine alw_of ze83 fun t7 m10 hle10 hb7 ho7 => store_own ho7 (by simp only [toL]; rw [hcl]; exact sz83) (by simp only [toL]; rw [hcl]; rfl) (all_ints hci) fun m11 hn11 hx11 ho7 => ?_
  simp only [toL] at ho7
  have hle11 := le_of_put hle10 hb7 hn11 hx11
  have hle8' : m7.le m11 := (hle8.trans hle9).trans hle11
  replace hle := hle.trans hle11
  replace ho8 := ho8.le hle11
  rw [cun_not, pop_some]
  cases b with
  | false => rw [show (!false) = true from rfl, cnd_true, lda ho8 ag50 sz50, pop_some]; exact fin50 hle h8m ho8 rfl hK
  | true =>
  have x7 : Mx m11 t7 cm := ⟨ho7, hcl, hci⟩
  have hld' : cload Try.prog 3 (.pointer (some ⟨bx, ox, none⟩)) m11 = some (.int .i64 (l.x p)) := (hcel.le hle8').elv ag3 sz3 hlen (by decide)
  obtain ⟨u1, hu1⟩ := x7.get (p := 0 + p * 8 + 7) (by omega)
  obtain ⟨u2, hu2⟩ := x7.get (p := 0 + 7 * 8 + p) (by omega)
  rw [show (!true) = false from rfl, cnd_false]
  simp only [pop_some, hld']
  rw [cia83 _ _ (i := p) (by omega)]
  simp only [pop_some]
  rw [cia81' _ _ (i := 7) (by omega) (by omega)]
  simp only [pop_some]
  rw [ldi x7.own hu1]
  simp only [pop_some, cb_sub]
  rw [cia83' _ _ (i := 7) (by omega) (by omega)]
  simp only [pop_some]
  rw [cia81 _ _ (i := p) (by omega)]
  simp only [pop_some]
  rw [ldi x7.own hu2]
  simp only [pop_some, cb_add]
  rw [hcb50]
  simp only [pop_some]
  exact fin50 hle h8m ho8 rfl hK
end Go.Proofs.Ytbjkpdaigckiiaa.S
end

section
open Go Go.Proofs Go.Proofs.Ytbjkpdaigckiiaa
set_option maxRecDepth 100000
namespace Go.Proofs.Ytbjkpdaigckiiaa.S
theorem f48_ok {l : LnD} {m : CM} (hl : l.In m) {t6 : Nat} (ho : Own m t6 l.cells 0) (hn6 : 1 ≤ l.d.n ∧ l.d.n ≤ 6) (hnn : l.n = l.d.n + 1) {j : Nat} (hj : j < l.n) {K : Value → CM → Prop} {Kp : List PanicEntry → CM → Prop}
    (hK : ∀ m' (b : Bool), m.le m' → K (.bool b) m') : callw Try.prog 48 [.int .i64 j, .pointer (some ⟨t6, 0, none⟩)] m K Kp := by
  apply c48
  unfold s48
  rw [lda ho ag78 sz78, pop_some]
  refine without49 hl (by omega) (by omega) (p := j) (by omega) fun m1 l' hle1 hd' hn' hl' => ?_
  refine close43 hl' (by rw [hd']; exact hn6) (by rw [hd', hn']; exact hnn) fun m2 cm b hle2 hcl hci => ?_
  simp only [cext, List.getElem?_cons_zero, List.getElem?_cons_succ, pop_some]
  refine alw_of ze83 fun t7 m10 hle10 hb7 ho7 => store_own ho7 (by simp only [toL]; rw [hcl]; exact sz83) (by simp only [toL]; rw [hcl]; rfl) (all_ints hci) fun m11 hn11 hx11 ho7 => ?_
  rw [leave1, RK_ret]
  exact hK _ _ ((hle1.trans hle2).trans (le_of_put hle10 hb7 hn11 hx11))
noncomputable abbrev A20 (a0 a1 t2 t4 t12 t14 t15 t16 t6 t18 t21 t22 t23 t24 t7 t26 t9 t27 t28 : Value) : CA := ((((((((((((((((((((((((((enterA Try.f20 [a0, a1]).put (some 2) t2).put (some 4) t4).put (some 5) (.int .i64 0)).put (some 12) t12).put (some 13) a1).put (some 14) t14).put (some 11) t14).put (some 15) t15).put (some 16) t16).put (some 6) t6).put (some 5) t16).put (some 17) t16).put (some 18) t18).put (some 21) t21).put (some 22) t22).put (some 20) t22).put (some 23) t23).put (some 24) t24).put (some 7) t7).put (some 8) t24).put (some 25) t24).put (some 26) t26).put (some 9) t9).put (some 27) t27).put (some 28) t28)
section
variable {a0 a1 t2 t4 t12 t14 t15 t16 t6 t18 t21 t22 t23 t24 t7 t26 t9 t27 t28 x0 x1 : Value} {l D : Nat} {m : CM}
theorem yield20 (hl : m.get l = some (.loop (rfRec (A20 a0 a1 t2 t4 t12 t14 t15 t16 t6 t18 t21 t22 t23 t24 t7 t26 t9 t27 t28) #[29, 30] as20_0 bd20_0 D))) {RY : Value → CM → Prop} (h : r20_0 RY l (A20 a0 a1 t2 t4 t12 t14 t15 t16 t6 t18 t21 t22 t23 t24 t7 t26 t9 t27 t28) x0 x1 m) : yieldw Try.prog l [x0, x1] m RY :=
  yield_text mixed (ann := ann20) hl rfl (by kernel_rfl) (by kernel_rfl) (by kernel_rfl) (by rw [er20_0]; exact h)
theorem A20_4 : (A20 a0 a1 t2 t4 t12 t14 t15 t16 t6 t18 t21 t22 t23 t24 t7 t26 t9 t27 t28).ρ 4 = t4 := rfl
theorem A20_9 : (A20 a0 a1 t2 t4 t12 t14 t15 t16 t6 t18 t21 t22 t23 t24 t7 t26 t9 t27 t28).ρ 9 = t9 := rfl
end
set_option maxHeartbeats 1000000 in
theorem Cheats20 {l : LnD} {m : CM} (hl : l.In m) {K : Value → CM → Prop} {Kp : List PanicEntry → CM → Prop}
    (hK : ∀ m' v (c : Int), m.le m' → ResV 1 m m' v → K (.tuple ⟨[v, .int .i64 c]⟩) m') : callw Try.prog 20 [.agg ⟨l.d.cells⟩, l.v] m K Kp := by
  apply c20
  unfold s20
  refine box_of fun t2 m1 hle1 hb2 ho2 => alw_of ze25 fun t4 m2 hle2 hb4 ho4 => ?_
  replace ho2 : Own m1 t2 l.d.cells 0 := ho2
  replace ho2 := ho2.le hle2
  have h4m : m.next ≤ t4 := Nat.le_trans hle1.1 hb4
  have hle := hle1.trans hle2
  have fin : ∀ {m4 : CM} {v v0 : Value} {c : Int}, m.le m4 → Own m4 t4 [v0] 0 → toL v = [v] → (toL v).all one = true → (∀ m5, m5.next = m4.next → (∀ x, x ≠ t4 → m5.get x = m4.get x) → ResV 1 m m5 v) →
      sop (cstore Try.prog 25 (.pointer (some ⟨t4, 0, none⟩)) v m4) (fun _ m => leaveV Try.prog [.c 25 (.pointer (some ⟨t4, 0, none⟩)), .v (.int .i64 c)] [] .ret m (RK K Kp)) := by
    intro m4 v v0 c hl4 ho h1 h2 hr
    refine store_own ho (by rw [h1]; exact sz25) (by rw [h1]; rfl) h2 fun m5 hn5 hx5 ho5 => ?_
    rw [h1] at ho5
    show pop (cload Try.prog 25 (.pointer (some ⟨t4, 0, none⟩)) m5) m5 _
    rw [ho5.cel.z ag25 (j := 0) rfl, pop_some]
    exact hK m5 _ c (le_of_put hl4 h4m hn5 hx5) (hr m5 hn5 hx5)
  rw [lda ho2 ag24 sz24, pop_some]
  refine open42 (hl.le hle) fun m3 cl e hle3 hc3 hc1 he => ?_
  replace hle := hle.trans hle3
  replace ho4 := ho4.le hle3
  have h4l := ho4.1
  simp only [cext, List.getElem?_cons_zero, List.getElem?_cons_succ, pop_some, cb_neq]
  refine alw_of ze78 fun t6 m4 hle4 hb6 ho6 => store_own ho6 (by simp only [toL]; rw [hc3]; exact sz78) (by simp [toL, hc3]) hc1 fun m5 hn5 hx5 ho6 => ?_
  simp only [toL] at ho6
  have hle5 := le_of_put hle4 hb6 hn5 hx5
  replace hle := hle.trans hle5
  replace ho4 := ho4.le hle5
  have h46 : t4 ≠ t6 := by omega
  cases hee : (e != 0) with
  | true => rw [cnd_true]; exact fin hle ho4 rfl rfl fun _ _ _ => .nil
  | false =>
  have he0 : e = 0 := by simpa using hee
  subst he0
  obtain ⟨rfl, hn6, hnn⟩ := he rfl
  rw [cnd_false, lda ho6 ag78 sz78, pop_some]
  refine close43 (hl.le hle) hn6 hnn fun m6 cm b hle6 hcl hci => ?_
  replace hle := hle.trans hle6
  replace ho4 := ho4.le hle6
  have h4l6 := ho4.1
  replace ho6 := ho6.le hle6
  simp only [List.getElem?_cons_zero, List.getElem?_cons_succ, pop_some]
  refine alw_of ze83 fun t7 m7 hle7 hb7 ho7 => store_own ho7 (by simp only [toL]; rw [hcl]; exact sz83) (by simp only [toL]; rw [hcl]; rfl) (all_ints hci) fun m8 hn8 hx8 ho7 => ?_
  simp only [toL] at ho7
  have hle8 := le_of_put hle7 hb7 hn8 hx8
  replace hle := hle.trans hle8
  replace ho4 := ho4.le hle8
  replace ho6 := ho6.le hle8
  have h4l8 := ho4.1
  cases b with
  | true => rw [cnd_true]; exact fin hle ho4 rfl rfl fun _ _ _ => .nil
  | false =>
  rw [cnd_false]
  refine alw_of ze93 fun t9 ma hlea hb9 ho9 => store_own ho9 (by simp only [toL]; exact sz93) rfl rfl fun mb hnb hxb ho9 => ?_
  simp only [toL] at ho9
  have hleb := le_of_put hlea hb9 hnb hxb
  replace hle := hle.trans hleb
  replace ho4 := ho4.le hleb
  replace ho6 := ho6.le hleb
  have h49 : t4 ≠ t9 := by omega
  rw [lda ho6 ag78 sz78, pop_some]
  refine points44 fun m9 tP hle9 hbP hoP => ?_
  refine ⟨81, [], [.pointer (some ⟨tP, 0, none⟩)], rfl, ?_⟩
  show callw Try.prog 81 [yv (m9.next + 1), .pointer (some ⟨tP, 0, none⟩)] _ _ _
  replace hle := hle.trans hle9
  have h4P : tP ≠ t4 := by have := ho4.1; omega
  replace ho4 := ho4.le hle9
  replace ho6 := ho6.le hle9
  replace ho9 := ho9.le hle9
  generalize hD : m9.next = D
  have hPD := hoP.1
  have h4D := ho4.1
  have h6D := ho6.1
  have h9D := ho9.1
  have hmD : m.next ≤ D := by have := hle.1; omega
  let REC : CL := rfRec (A20 (.agg ⟨l.d.cells⟩) l.v (.pointer (some ⟨t2, 0, none⟩)) (.pointer (some ⟨t4, 0, none⟩)) (.agg ⟨l.d.cells⟩) (.tuple ⟨[.agg ⟨l.cells⟩, .int .i64 0]⟩) (.agg ⟨l.cells⟩) (.int .i64 0) (.pointer (some ⟨t6, 0, none⟩)) (.bool false) (.agg ⟨l.cells⟩) (.tuple ⟨[.agg ⟨cm⟩, .bool false]⟩) (.agg ⟨cm⟩) (.bool false) (.pointer (some ⟨t7, 0, none⟩)) (.func (.func 48) ⟨[]⟩ ⟨[.pointer (some ⟨t6, 0, none⟩)]⟩) (.pointer (some ⟨t9, 0, none⟩)) (.agg ⟨l.cells⟩) (.func (.func 81) ⟨[]⟩ ⟨[.pointer (some ⟨tP, 0, none⟩)]⟩)) #[29, 30] as20_0 bd20_0 D
  refine iter81 (l := l) (t1 := tP) (lp := D + 1) (I := fun i M => D + 2 ≤ M.next ∧ (∀ x, x < D → x ≠ t4 → M.get x = m9.get x) ∧ M.get D = some .dfr ∧ M.get (D + 1) = some (.loop REC) ∧ ∃ v bn cs, Own M t4 [v] 0 ∧ (∃ n, n ≤ i ∧ HVe 1 M v bn cs n) ∧ (∀ y, bn = some y → D + 2 ≤ y) ∧ (∀ u ∈ cs, ∃ k, u = .int .i64 k)) hnn hn6.2 ?_ ?_ ?_ ?_ ?_
  · rintro i m4 m5 ⟨g0, g1, g2, g3, v, bn, cs, g4, ⟨n, gn, g5⟩, g6, g7⟩ hle
    exact ⟨by have := hle.1; omega, fun x h1 h2 => by rw [hle.2 x (by omega)]; exact g1 x h1 h2, by rw [hle.2 _ (by omega)]; exact g2, by rw [hle.2 _ (by omega)]; exact g3, v, bn, cs, g4.le hle, ⟨n, gn, g5.le hle⟩, g6, g7⟩
  · rintro j M ⟨g0, g1, g2, g3, _⟩
    refine ⟨hl.le ⟨by omega, fun x hx => ?_⟩, ⟨by omega, by rw [g1 tP (by omega) h4P]; exact hoP.2⟩⟩
    rw [g1 x (by omega) (by omega)]; exact hle.2 x hx
  · rintro j a b M K' ⟨g0, g1, g2, g3, v, bn, cs, g4, ⟨n, gn, g5⟩, g6, g7⟩ hj hkk
    refine yield20 g3 ?_
    unfold r20_0
    refine ⟨REC, g3, rfl, ?_⟩
    generalize hm6 : M.put (D + 1) (.loop { REC with state := .busy }) = m10
    have hn10 : m10.next = M.next := by rw [← hm6]; rfl
    have hP : ∀ x, x ≠ D + 1 → m10.get x = M.get x := fun x hx => by rw [← hm6, CM.get_put, if_neg hx]
    have hL10 : m10.get (D + 1) = some (.loop { REC with state := .busy }) := by rw [← hm6, CM.get_put, if_pos rfl]
    have o4 : Own m10 t4 [v] 0 := ⟨by rw [hn10]; exact g4.1, by rw [hP _ (by omega)]; exact g4.2⟩
    have o6 : Own m10 t6 l.cells 0 := ⟨by omega, by rw [hP _ (by omega), g1 t6 (by omega) (Ne.symm h46)]; exact ho6.2⟩
    have o9 : Own m10 t9 [.func (.func 48) ⟨[]⟩ ⟨[.pointer (some ⟨t6, 0, none⟩)]⟩] 0 := ⟨by omega, by rw [hP _ (by omega), g1 t9 (by omega) (Ne.symm h49)]; exact ho9.2⟩
    have l10 : l.In m10 := hl.le ⟨by omega, fun x hx => by rw [hP x (by omega), g1 x (by omega) (by omega)]; exact hle.2 x hx⟩
    have v10 : HVe 1 m10 v bn cs n := g5.of_get (by omega) fun y hy => hP y (by have := g6 y hy; omega)
    rw [A20_4, A20_9, o9.cel.z ag93 (j := 0) rfl]
    simp only [pop_some]
    show callw Try.prog 48 ([] ++ [.int .i64 j] ++ [.pointer (some ⟨t6, 0, none⟩)]) m10 _ _
    refine f48_ok l10 o6 hn6 hnn hj fun m11 bt hle11 => ?_
    have o4b := o4.le hle11
    have v11 := v10.le hle11
    have hL11 : m11.get (D + 1) = some (.loop { REC with state := .busy }) := by rw [hle11.2 _ (by omega)]; exact hL10
    have hn11 := hle11.1
    have hold11 : ∀ x, x < D + 2 → x ≠ D + 1 → m11.get x = M.get x := fun x h1 h2 => by rw [hle11.2 x (by omega)]; exact hP x h2
    have done : ∀ (m12 : CM) (v' : Value) (bn' : Option Nat) (cs' : List Value) (n' : Nat), D + 2 ≤ m12.next → (∀ x, x < D + 2 → x ≠ t4 → m12.get x = m11.get x) → Own m12 t4 [v'] 0 → n' ≤ j + 1 → HVe 1 m12 v' bn' cs' n' → (∀ y, bn' = some y → D + 2 ≤ y) → (∀ u ∈ cs', ∃ k, u = .int .i64 k) → j20_1 K' (D + 1) m12 := by
      intro m12 v' bn' cs' n' q0 q1 q2 q3 q4 q5 q6
      have hL12 : m12.get (D + 1) = some (.loop { REC with state := .busy }) := by rw [q1 _ (by omega) (by omega)]; exact hL11
      refine ⟨none, _, rfl, hL12, hkk _ ⟨by simp only [CM.next_put]; omega, fun x h1 h2 => ?_, ?_, ?_, v', bn', cs', Own.put_ne q2 (by omega), ⟨n', q3, q4.of_get (by simp only [CM.next_put]; omega) fun y hy => by rw [CM.get_put, if_neg (by have := q5 y hy; omega)]⟩, q5, q6⟩⟩
      · rw [CM.get_put, if_neg (by omega), q1 x (by omega) h2, hold11 x (by omega) (by omega)]; exact g1 x h1 h2
      · rw [CM.get_put, if_neg (by omega), q1 _ (by omega) (by omega), hold11 _ (by omega) (by omega)]; exact g2
      · rw [CM.get_put, if_pos rfl]; rfl
    cases bt with
    | false => rw [cnd_false]; exact done m11 v bn cs n (by omega) (fun _ _ _ => rfl) o4b (by omega) v11 g6 g7
    | true =>
    rw [cnd_true, o4b.cel.z ag25 (j := 0) rfl, pop_some]
    refine app1 Try.underlying25 sz3 ze3 ap25 by3 (by decide) (by decide) v11.hv rfl (by have := v11.len; unfold lim; omega) fun b' m12 hb' hn12 hg12 ho12 => ?_
    have hbn4 : bn ≠ some t4 := fun e => by have := g6 _ e; omega
    have o4' : Own m12 t4 [v] 0 := ⟨by omega, by rw [hg12 t4 (by omega) hbn4]; exact o4b.2⟩
    refine store_own o4' (by simp [toL, sz25]) (by simp [toL]) rfl fun m13 hn13 hx13 ho13 => ?_
    simp only [toL] at ho13
    have hlen := v11.len
    refine done m13 _ (some b') (cs ++ [.int .i64 j]) (n + 1) (by omega) (fun x h1 h2 => by rw [hx13 x h2, hg12 x (by omega) (fun e => by have := g6 x e; omega)]) ho13 (by omega) ?_ (fun y hy => by cases hy; omega) (fun u hu => ?_)
    · have : (cs ++ [Value.int .i64 j]).length = n + 1 := by simp; omega
      rw [this]
      exact (HVe.blk ho12 (by simp; omega)).of_get (by omega) fun y hy => by cases hy; rw [hx13 _ (by omega)]
    · simp only [List.mem_append, List.mem_cons, List.not_mem_nil, or_false] at hu
      rcases hu with hu | rfl
      · exact g7 u hu
      · exact ⟨_, rfl⟩
  · have hA : ∀ x, x < D → ((m9.alloc .dfr).alloc (.loop REC)).get x = m9.get x := fun x hx => by rw [CM.get_alloc, if_neg (by simp; omega), CM.get_alloc, if_neg (by omega)]
    exact ⟨by simp only [CM.next_alloc]; omega, fun x hx _ => hA x hx, by rw [CM.get_alloc, if_neg (by simp only [CM.next_alloc]; omega), CM.get_alloc, if_pos (by omega)], by rw [CM.get_alloc, if_pos (by simp only [CM.next_alloc]; omega)], _, none, [], ⟨by simp only [CM.next_alloc]; omega, by rw [hA t4 (by omega)]; exact ho4.2⟩, ⟨0, by omega, .nil⟩, fun _ h => by simp at h, fun _ h => by simp at h⟩
  · rintro v0 M ⟨g0, g1, g2, g3, v, bn, cs, g4, ⟨n, gn, g5⟩, g6, g7⟩
    refine ⟨REC, g3, (by intro h; cases h), .normal, rfl, ?_⟩
    have hPx : ∀ x, x ≠ D + 1 → (M.put (D + 1) (.loop { REC with state := .exhausted })).get x = M.get x := fun x hx => by rw [CM.get_put, if_neg hx]
    generalize hMM : M.put (D + 1) (.loop { REC with state := .exhausted }) = M2 at hPx
    have hMn : M2.next = M.next := by rw [← hMM]; rfl
    have o4 : Own M2 t4 [v] 0 := ⟨by rw [hMn]; exact g4.1, by rw [hPx _ (by omega)]; exact g4.2⟩
    show j20_0 _ _ _ _
    unfold j20_0
    obtain ⟨e1, e2⟩ := g5.toL1
    have hend : ∀ (v' : Value) (c : Int), toL v' = [v'] → (toL v').all one = true → (∀ m6, m6.next = M.next → (∀ x, x ≠ t4 → x ≠ D → x ≠ D + 1 → m6.get x = M.get x) → ResV 1 m m6 v') →
        sop (cstore Try.prog 25 (.pointer (some ⟨t4, 0, none⟩)) v' M2) (fun _ m => leaveV Try.prog [.c 25 (.pointer (some ⟨t4, 0, none⟩)), .v (.int .i64 c)] [mark D] .ret m (RK K Kp)) := by
      intro v' c q1 q2 q3
      refine store_own o4 (by rw [q1]; exact sz25) (by rw [q1]; rfl) q2 fun m5 hn5 hx5 ho5 => ?_
      rw [q1] at ho5
      show leaveV Try.prog _ ([D].map mark) .ret m5 _
      refine leave_marks (fun E hE => ?_) (by simp) fun m6 hn6' hx6 => ?_
      · simp at hE; subst hE; rw [hx5 _ (by omega), hPx _ (by omega)]; exact g2
      · have ho6 : Own m6 t4 [v'] 0 := ⟨by rw [hn6']; exact ho5.1, by rw [hx6 t4 (by simp; omega)]; exact ho5.2⟩
        show pop (cload Try.prog 25 (.pointer (some ⟨t4, 0, none⟩)) m6) m6 _
        rw [ho6.cel.z ag25 (j := 0) rfl, pop_some]
        have hall : ∀ x, x ≠ t4 → x ≠ D → x ≠ D + 1 → m6.get x = M.get x := fun x h1 h2 h3 => by rw [hx6 x (by simp; exact h2), hx5 x h1, hPx x h3]
        refine hK m6 v' c ⟨by omega, fun y hy => ?_⟩ (q3 m6 (by omega) hall)
        rw [hall y (by omega) (by omega) (by omega), g1 y (by omega) (by omega)]; exact hle.2 y hy
    rw [o4.cel.z ag25 (j := 0) rfl, pop_some, g5.sl.len Try.underlying25, pop_some, cb_eql, pop_some]
    cases hz : ((n : Int) == 0) with
    | true => rw [cnd_true]; exact hend _ _ rfl rfl fun _ _ _ => .nil
    | false =>
      rw [cnd_false, o4.cel.z ag25 (j := 0) rfl, pop_some]
      exact hend v 0 e1 e2 fun m6 hn6' hall => ⟨bn, cs, n, g5.of_get (by omega) fun y hy => by have := g6 y hy; exact hall y (by omega) (by omega) (by omega), fun y hy => by have := g6 y hy; omega, by omega, g7⟩
end Go.Proofs.Ytbjkpdaigckiiaa.S
end

section
open Go Go.Proofs Go.Proofs.Ytbjkpdaigckiiaa
set_option maxRecDepth 100000
namespace Go.Proofs.Ytbjkpdaigckiiaa.S
theorem cb_and {t : TypeId} {x y : Operand} {a b : Int} : ∃ n, cbin Try.prog .and t x y (.int .i64 a) (.int .i64 b) = some (.int .i64 n) := by
  simp only [cbin, plainV, eqg, binOp_and, Op.intBits, Bool.and_self, if_true]
  exact ⟨_, rfl⟩
theorem cb_andNot {t : TypeId} {x y : Operand} {a b : Int} : ∃ n, cbin Try.prog .andNot t x y (.int .i64 a) (.int .i64 b) = some (.int .i64 n) := by
  simp only [cbin, plainV, eqg, binOp_andNot, Op.intBits, Bool.and_self, if_true]
  exact ⟨_, rfl⟩
theorem cb_shr {t : TypeId} {x y : Operand} {a b : Int} (h : 0 ≤ b) : ∃ n, cbin Try.prog .shr t x y (.int .i64 a) (.int .i64 b) = some (.int .i64 n) := by
  refine ⟨a.fdiv (2 ^ (min b.toNat (IntKind.bits .i64))), ?_⟩
  have : ¬ b < 0 := by omega
  simp only [cbin, plainV, eqg, binOp_shr, Op.shift, Bool.and_self, if_true, if_neg this]
  rfl
theorem cb_shl {t : TypeId} {x y : Operand} {a b : Int} (h : 0 ≤ b) : ∃ n, cbin Try.prog .shl t x y (.int .i64 a) (.int .i64 b) = some (.int .i64 n) := by
  refine ⟨IntKind.i64.wrap (a * 2 ^ (min b.toNat (IntKind.bits .i64))), ?_⟩
  have : ¬ b < 0 := by omega
  simp only [cbin, plainV, eqg, binOp_shl, Op.shift, Bool.and_self, if_true, if_neg this]
  rfl
/-! ### Bags -/
def BagRow (r : List Value) : Prop := ∃ a b c, r = [.int .i64 a, .int .i64 b, .int .i64 c]
theorem BagRow.one {r : List Value} (h : BagRow r) : r.all one = true := by obtain ⟨a, b, c, rfl⟩ := h; rfl
structure BagsD where
  v : Value
  n : Nat
  row : Nat → List Value
structure BagsD.In (d : BagsD) (m : CM) : Prop where
  s : Sl 3 m d.v d.n d.row
  r : ∀ i, i < d.n → BagRow (d.row i)
  n0 : d.n < 4611686018427387904
theorem BagsD.In.le {d : BagsD} {m m' : CM} (h : d.In m) (k : m.le m') : d.In m' := ⟨h.s.le k, h.r, h.n0⟩
section
variable {m : CM} {a b c s f : Int} {K : Value → CM → Prop} {Kp : List PanicEntry → CM → Prop}
theorem lo58 (hK : ∀ m', m.le m' → K (.int .i64 a) m') : callw Try.prog 58 [.agg ⟨[.int .i64 a, .int .i64 b]⟩] m K Kp := by
  apply c58
  unfold s58
  refine box_of fun t1 m1 hle1 hb1 ho1 => ?_
  replace ho1 : Own m1 t1 [.int .i64 a, .int .i64 b] 0 := ho1
  rw [fz50_0, pop_some, ldi ho1 (j := 0) rfl, pop_some, leave1, RK_ret]
  exact hK _ hle1
theorem hi59 (hK : ∀ m', m.le m' → K (.int .i64 b) m') : callw Try.prog 59 [.agg ⟨[.int .i64 a, .int .i64 b]⟩] m K Kp := by
  apply c59
  unfold s59
  refine box_of fun t1 m1 hle1 hb1 ho1 => ?_
  replace ho1 : Own m1 t1 [.int .i64 a, .int .i64 b] 0 := ho1
  rw [fz50_1, pop_some, ldi ho1 (j := 1) rfl, pop_some, leave1, RK_ret]
  exact hK _ hle1
theorem foreign84 (hK : ∀ m' (x : Bool), m.le m' → K (.bool x) m') : callw Try.prog 84 [.agg ⟨[.int .i64 s, .int .i64 f]⟩, .agg ⟨[.int .i64 a, .int .i64 b, .int .i64 c]⟩] m K Kp := by
  apply c84
  unfold s84
  refine box_of fun t2 m1 hle1 hb1 ho1 => box_of fun t3 m2 hle2 hb2 ho2 => ?_
  replace ho1 : Own m1 t2 [.int .i64 s, .int .i64 f] 0 := ho1
  replace ho2 : Own m2 t3 [.int .i64 a, .int .i64 b, .int .i64 c] 0 := ho2
  replace ho1 := ho1.le hle2
  obtain ⟨n, hn⟩ := cb_andNot (t := 3) (x := .tmp 6) (y := .tmp 9) (a := c) (b := s)
  rw [fz104_1, pop_some, ldi ho2 (j := 2) rfl, pop_some, fz98_0, pop_some, fz27_0, pop_some, ldi ho1 (j := 0) rfl, pop_some, hn, pop_some, cb_neq, pop_some, leave1, RK_ret]
  exact hK _ _ (hle1.trans hle2)
theorem own57 (hK : ∀ m' (x : Bool), m.le m' → K (.bool x) m') : callw Try.prog 57 [.agg ⟨[.int .i64 s, .int .i64 f]⟩, .agg ⟨[.int .i64 a, .int .i64 b, .int .i64 c]⟩] m K Kp := by
  apply c57
  unfold s57
  refine box_of fun t2 m1 hle1 hb1 ho1 => box_of fun t3 m2 hle2 hb2 ho2 => ?_
  replace ho1 : Own m1 t2 [.int .i64 s, .int .i64 f] 0 := ho1
  replace ho2 : Own m2 t3 [.int .i64 a, .int .i64 b, .int .i64 c] 0 := ho2
  replace ho1 := ho1.le hle2
  obtain ⟨n, hn⟩ := cb_and (t := 3) (x := .tmp 6) (y := .tmp 9) (a := c) (b := s)
  rw [fz104_1, pop_some, ldi ho2 (j := 2) rfl, pop_some, fz98_0, pop_some, fz27_0, pop_some, ldi ho1 (j := 0) rfl, pop_some, hn, pop_some, cb_neq, pop_some, leave1, RK_ret]
  exact hK _ _ (hle1.trans hle2)
theorem f56_ok {t : Nat} (ho : Own m t [.int .i64 s, .int .i64 f] 0) (hK : ∀ m' (x : Bool), m.le m' → K (.bool x) m') : callw Try.prog 56 [.agg ⟨[.int .i64 a, .int .i64 b, .int .i64 c]⟩, .pointer (some ⟨t, 0, none⟩)] m K Kp := by
  apply c56
  unfold s56
  refine box_of fun t2 m1 hle1 hb1 ho1 => ?_
  replace ho1 : Own m1 t2 [.int .i64 a, .int .i64 b, .int .i64 c] 0 := ho1
  rw [lda (ho.le hle1) ag98 sz98, pop_some, lda ho1 ag104 sz104, pop_some]
  refine own57 fun m2 x hle2 => ?_
  rw [cun_not, pop_some, leave1, RK_ret]
  exact hK _ _ (hle1.trans hle2)
end
/-- What the callbacks of fits are asked. -/
def BagFn (m0 : CM) (F : Value) : Prop := ∀ (m' : CM) (a b c : Int) (K : Value → CM → Prop) (Kp : List PanicEntry → CM → Prop), m0.le m' → (∀ m2 (x : Bool), m'.le m2 → K (.bool x) m2) → callv Try.prog F [.agg ⟨[.int .i64 a, .int .i64 b, .int .i64 c]⟩] m' K Kp
def EndFn (F : Value) : Prop := ∀ (m' : CM) (a b : Int) (K : Value → CM → Prop) (Kp : List PanicEntry → CM → Prop), (∀ m2 (x : Int), m'.le m2 → K (.int .i64 x) m2) → callv Try.prog F [.agg ⟨[.int .i64 a, .int .i64 b]⟩] m' K Kp
theorem end58 : EndFn (.func (.func 58) ⟨[]⟩ ⟨[]⟩) := fun m' a b K Kp hK => by
  show callw Try.prog 58 ([] ++ [_] ++ []) m' K Kp
  exact lo58 fun m2 h => hK m2 a h
theorem end59 : EndFn (.func (.func 59) ⟨[]⟩ ⟨[]⟩) := fun m' a b K Kp hK => by
  show callw Try.prog 59 ([] ++ [_] ++ []) m' K Kp
  exact hi59 fun m2 h => hK m2 b h
theorem fits55 {d : BagsD} {m : CM} (hd : d.In m) {s f : Int} {F f1 f2 : Value} (hF : BagFn m F) (h1 : EndFn f1) (h2 : EndFn f2) {K : Value → CM → Prop} {Kp : List PanicEntry → CM → Prop} (hK : ∀ m' (x : Bool), m.le m' → K (.bool x) m') :
    callw Try.prog 55 [.agg ⟨[.int .i64 s, .int .i64 f]⟩, d.v, F, f1, f2] m K Kp := by
  have hn0 := hd.n0
  apply c55
  unfold s55
  refine box_of fun t5 m1 hle1 hb5 ho5 => ?_
  replace ho5 : Own m1 t5 [.int .i64 s, .int .i64 f] 0 := ho5
  rw [hd.s.len Try.underlying28, pop_some]
  refine loopA_of (fun l ds m' => ds = [] ∧ m1.le m' ∧ ∃ (i : Nat) (x y : Int), i ≤ d.n ∧ l = [F, f1, f2, .pointer (some ⟨t5, 0, none⟩), .bool false, .int .i64 x, .int .i64 y, d.v, .int .i64 d.n, .int .i64 i])
    (fun l _ => match l with | [_, _, _, _, _, _, _, _, _, .int _ i] => d.n - i.toNat | _ => 0) ⟨rfl, .refl m1, 0, 0, 0, by omega, rfl⟩ ?_
  rintro X ρ ds m' ⟨rfl, hle, i, x, y, hi, hl⟩ hX
  simp only [List.map_cons, List.map_nil, List.cons.injEq, and_true] at hl
  obtain ⟨q2, q3, q4, q5, q10, q11, q12, q16, q17, q18⟩ := hl
  simp only [q2, q3, q4, q5, q10, q11, q12, q16, q17, q18, cb_lss, pop_some]
  have hml : m.le m' := hle1.trans hle
  by_cases hci : i < d.n
  · have hc' : decide ((i : Int) < (d.n : Int)) = true := by simpa using hci
    obtain ⟨bx, ox, hia, hcel, hlen⟩ := (hd.le hml).s.at Try.underlying28 sz104 (i := i) (by omega) (by omega)
    simp only [Int.toNat_natCast] at hcel hlen
    obtain ⟨a, b, c, hr⟩ := hd.r i hci
    rw [hr] at hcel hlen
    have hld := hcel.elv ag104 sz104 hlen (by decide)
    rw [hc', cnd_true, hia, pop_some, hld, pop_some]
    refine alw_of ze104 fun t14 m2 hle2 hb2 ho2 => store_own ho2 (by simp only [elv, toL]; exact sz104) rfl rfl fun m3 hn3 hx3 ho3 => ?_
    simp only [elv, toL] at ho3
    have hle3 := le_of_put hle2 hb2 hn3 hx3
    have hld2 : ∀ {M : CM}, m3.le M → cload Try.prog 50 (.pointer (some ⟨t14, 0, none⟩)) M = some (.agg ⟨[.int .i64 a, .int .i64 b]⟩) := fun {M} h => by
      have := (ho3.le h).cel.za ag50 sz50 (j := 0) (by simp)
      simpa using this
    rw [fz104_0, pop_some, hld2 (.refl m3), pop_some]
    refine h2 m3 a b _ _ fun m4 x2 hle4 => ?_
    rw [lda (ho3.le hle4) ag104 sz104, pop_some]
    have hle14 : m.le m4 := (hml.trans hle3).trans hle4
    refine hF m4 a b c _ _ hle14 fun m5 x3 hle5 => ?_
    have hle15 : m1.le m5 := ((hle.trans hle3).trans hle4).trans hle5
    cases x3 with
    | false =>
      rw [cnd_false]
      unfold j55_0
      rw [cb_add, pop_some, cb_add, pop_some, wrap_id (n := (i : Int) + 1) (by omega) (by omega)]
      refine hX _ _ _ ⟨rfl, hle15, i + 1, x, IntKind.i64.wrap (y + x2), by omega, by simp⟩ ?_
      simp only [List.map_cons, List.map_nil, q18]; omega
    | true =>
      rw [cnd_true, pop_some, hld2 (hle4.trans hle5), pop_some]
      refine h1 m5 a b _ _ fun m6 x4 hle6 => ?_
      rw [cb_add, pop_some]
      unfold j55_0
      rw [cb_add, pop_some, cb_add, pop_some, wrap_id (n := (i : Int) + 1) (by omega) (by omega)]
      refine hX _ _ _ ⟨rfl, hle15.trans hle6, i + 1, IntKind.i64.wrap (x + x4), IntKind.i64.wrap (y + x4), by omega, by simp⟩ ?_
      simp only [List.map_cons, List.map_nil, q18]; omega
  · have hc' : decide ((i : Int) < (d.n : Int)) = false := by simpa using hci
    rw [hc', cnd_false, cb_mul, pop_some, fz98_0, pop_some, fz27_1, pop_some, ldi (ho5.le hle) (j := 1) rfl, pop_some, cb_mul, pop_some, cb_leq, pop_some, leave1, RK_ret]
    exact hK _ _ hml
theorem sure54 {d : BagsD} {m : CM} (hd : d.In m) {s f : Int} {K : Value → CM → Prop} {Kp : List PanicEntry → CM → Prop} (hK : ∀ m' (x : Bool), m.le m' → K (.bool x) m') :
    callw Try.prog 54 [.agg ⟨[.int .i64 s, .int .i64 f]⟩, d.v] m K Kp := by
  apply c54
  unfold s54
  refine box_of fun t2 m1 hle1 hb1 ho1 => ?_
  replace ho1 : Own m1 t2 [.int .i64 s, .int .i64 f] 0 := ho1
  rw [lda ho1 ag98 sz98, pop_some, lda ho1 ag98 sz98, pop_some]
  refine fits55 (hd.le hle1) (fun m' a b c K Kp hle hK => ?_) end59 end58 fun m2 x hle2 => ?_
  · show callw Try.prog 84 ([_] ++ [_] ++ []) m' K Kp
    exact foreign84 hK
  · rw [leave1, RK_ret]
    exact hK _ _ (hle1.trans hle2)
theorem check83 {m : CM} {i a b c : Int} {K : Value → CM → Prop} {Kp : List PanicEntry → CM → Prop} (hK : ∀ m' (e : Int), m.le m' → K (.int .i64 e) m') :
    callw Try.prog 83 [.int .i64 i, .agg ⟨[.int .i64 a, .int .i64 b, .int .i64 c]⟩] m K Kp := by
  apply c83
  unfold s83
  refine box_of fun t3 m1 hle1 hb1 ho1 => ?_
  replace ho1 : Own m1 t3 [.int .i64 a, .int .i64 b, .int .i64 c] 0 := ho1
  simp only [fz104_0, fz104_1, fz50_0, fz50_1, pop_some]
  rw [ldi ho1 (j := 0) rfl]
  simp only [pop_some]
  rw [ldi ho1 (j := 1) rfl]
  simp only [pop_some]
  refine out_2 fun t13 m2 hle2 _ => ?_
  replace ho1 := ho1.le hle2
  have hle := hle1.trans hle2
  cases t13 with
  | true =>
    simp only [gb_bool, Bool.true_beq, gop_false, cpick_bool, if_true, pop_some, cnd_true]
    rw [leave1, RK_ret]; exact hK _ _ hle
  | false =>
    simp only [gb_bool, beq_self_eq_true, gop_true]
    rw [ldi ho1 (j := 2) rfl]
    simp only [pop_some]
    refine out_1 fun t18 m3 hle3 _ => ?_
    replace ho1 := ho1.le hle3
    replace hle := hle.trans hle3
    simp only [cpick_bool, Bool.false_eq_true, if_false, pop_some]
    cases t18 with
    | true => rw [cnd_true, leave1, RK_ret]; exact hK _ _ hle
    | false =>
      rw [cnd_false, ldi ho1 (j := 0) rfl]
      simp only [pop_some]
      rw [ldi ho1 (j := 1) rfl]
      simp only [pop_some, cb_gtr]
      cases decide (b < a) with
      | true => rw [cnd_true, leave1, RK_ret]; exact hK _ _ hle
      | false => rw [cnd_false, leave1, RK_ret]; exact hK _ _ hle
end Go.Proofs.Ytbjkpdaigckiiaa.S
end

section
open Go Go.Proofs Go.Proofs.Ytbjkpdaigckiiaa
set_option maxRecDepth 100000
namespace Go.Proofs.Ytbjkpdaigckiiaa.S
theorem hcb98 (a b : Int) : cbuild Try.prog 98 [(0, .agg ⟨[.int .i64 a, .int .i64 b]⟩)] = some (.agg ⟨[.int .i64 a, .int .i64 b]⟩) := by kernel_rfl
theorem begin53 {d : BagsD} {m : CM} (hd : d.In m) {s f : Int} {K : Value → CM → Prop} {Kp : List PanicEntry → CM → Prop}
    (hK : ∀ m' (a b e : Int), m.le m' → (e = 0 → d.n ≤ 10) → K (.tuple ⟨[.agg ⟨[.int .i64 a, .int .i64 b]⟩, .int .i64 e]⟩) m') : callw Try.prog 53 [.agg ⟨[.int .i64 s, .int .i64 f]⟩, d.v] m K Kp := by
  apply c53
  unfold s53
  refine box_of fun t2 m1 hle1 hb2 ho2 => alw_of ze98 fun t4 m2 hle2 hb4 ho4 => ?_
  replace ho2 : Own m1 t2 [.int .i64 s, .int .i64 f] 0 := ho2
  replace ho2 := ho2.le hle2
  have h4m : m.next ≤ t4 := Nat.le_trans hle1.1 hb4
  have hle := hle1.trans hle2
  have fin : ∀ {m4 : CM} {a b e : Int}, m.le m4 → Own m4 t4 [.int .i64 0, .int .i64 0] 0 → (e = 0 → d.n ≤ 10) →
      sop (cstore Try.prog 98 (.pointer (some ⟨t4, 0, none⟩)) (.agg ⟨[.int .i64 a, .int .i64 b]⟩) m4) (fun _ m => leaveV Try.prog [.c 98 (.pointer (some ⟨t4, 0, none⟩)), .v (.int .i64 e)] [] .ret m (RK K Kp)) := by
    intro m4 a b e hl4 ho he
    refine store_own ho (by simp only [toL]; exact sz98) rfl rfl fun m5 hn5 hx5 ho5 => ?_
    simp only [toL] at ho5
    show pop (cload Try.prog 98 (.pointer (some ⟨t4, 0, none⟩)) m5) m5 _
    rw [lda ho5 ag98 sz98, pop_some]
    exact hK m5 a b e (le_of_put hl4 h4m hn5 hx5) he
  rw [fz27_0, pop_some, ldi ho2 (j := 0) rfl, pop_some]
  refine out_1 fun t10 m3 hle3 _ => ?_
  replace hle := hle.trans hle3
  replace ho2 := ho2.le hle3
  replace ho4 := ho4.le hle3
  have main : ∀ (m5 : CM) (t16 : Bool), m3.le m5 → cnd (.bool t16) (pop (cload Try.prog 98 (.pointer (some ⟨t4, 0, none⟩)) m5) m5 (fun t17 m => sop (cstore Try.prog 98 (.pointer (some ⟨t4, 0, none⟩)) t17 m) (fun _ m => leaveV Try.prog [.c 98 (.pointer (some ⟨t4, 0, none⟩)), .v (.int .i64 7)] [] .ret m (RK K Kp)))) (pop (clen Try.prog 28 d.v m5) m5 (fun t20 m => pop (cbin Try.prog BinOp.gtr 3 (Operand.tmp 20) (Operand.const (Value.int IntKind.i64 10)) t20 (.int .i64 10)) m (fun t21 m => cnd t21 (pop (cload Try.prog 98 (.pointer (some ⟨t4, 0, none⟩)) m) m (fun t22 m => sop (cstore Try.prog 98 (.pointer (some ⟨t4, 0, none⟩)) t22 m) (fun _ m => leaveV Try.prog [.c 98 (.pointer (some ⟨t4, 0, none⟩)), .v (.int .i64 3)] [] .ret m (RK K Kp)))) (callw Try.prog 82 [d.v, (.func (.func 83) ⟨[]⟩ ⟨[]⟩)] m (fun t25 m => pop (cext t25 0) m (fun t26 m => pop (cext t25 1) m (fun t27 m => pop (cload Try.prog 27 (.pointer (some ⟨t2, 0, none⟩)) m) m (fun t28 m => pop (cbuild Try.prog 98 [(0, t28)]) m (fun t29 m => sop (cstore Try.prog 98 (.pointer (some ⟨t4, 0, none⟩)) t29 m) (fun _ m => leaveV Try.prog [.c 98 (.pointer (some ⟨t4, 0, none⟩)), .v t27] [] .ret m (RK K Kp))))))) (fun ch m => (RK K Kp) (.pan ch) m))))) := by
    intro m5 t16 hle5
    replace hle := hle.trans hle5
    replace ho2 := ho2.le hle5
    replace ho4 := ho4.le hle5
    cases t16 with
    | true => rw [cnd_true, lda ho4 ag98 sz98, pop_some]; exact fin hle ho4 fun h => by simp at h
    | false =>
    rw [cnd_false, (hd.le hle).s.len Try.underlying28, pop_some, cb_gtr, pop_some]
    cases hg : decide ((10 : Int) < (d.n : Int)) with
    | true => rw [cnd_true, lda ho4 ag98 sz98, pop_some]; exact fin hle ho4 fun h => by simp at h
    | false =>
    have hn10 : d.n ≤ 10 := by simp at hg; omega
    rw [cnd_false]
    refine first_ok (fun h => c82 h) Try.underlying28 sz104 ag104 (by decide) ze104 rfl hd.n0 (row := d.row) (Inv := fun _ m' => m5.le m') (J := fun _ m' => m5.le m') (fun i hi => (hd.r i hi).one) (fun i m' h => (hd.le hle).s.le h) (fun i m' m2 h k => h.trans k)
      (fun i m' K Kp hi hm hk => ?_) (.refl m5) fun m6 x e g0 g1 => ?_
    · obtain ⟨a, b, c, hr⟩ := hd.r i hi
      rw [hr]
      show callw Try.prog 83 ([] ++ [.int .i64 i, _] ++ []) m' _ _
      exact check83 fun m2 e h => hk m2 e (fun _ => hm.trans h) (fun _ => hm.trans h)
    · have hle6 : m5.le m6 := by
        by_cases he : e = 0
        · exact g0 he
        · exact g1 he
      simp only [cext, List.getElem?_cons_zero, List.getElem?_cons_succ, pop_some]
      rw [lda (ho2.le hle6) ag27 sz27, pop_some, hcb98, pop_some]
      exact fin (hle.trans hle6) (ho4.le hle6) fun _ => hn10
  cases t10 with
  | true =>
    simp only [gb_bool, Bool.true_beq, gop_false, cpick_bool, if_true, pop_some]
    exact main m3 true (.refl m3)
  | false =>
    simp only [gb_bool, beq_self_eq_true, gop_true, fz27_1, pop_some]
    rw [ldi ho2 (j := 1) rfl]
    simp only [pop_some]
    refine out_1 fun t15 m5 hle5 _ => ?_
    simp only [cpick_bool, Bool.false_eq_true, if_false, pop_some]
    exact main m5 t15 hle5
theorem Judge27 {d : BagsD} {m : CM} (hd : d.In m) {s f : Int} {K : Value → CM → Prop} {Kp : List PanicEntry → CM → Prop}
    (hK : ∀ m' (a e : Int), m.le m' → K (.tuple ⟨[.int .i64 a, .int .i64 e]⟩) m') : callw Try.prog 27 [.agg ⟨[.int .i64 s, .int .i64 f]⟩, d.v] m K Kp := by
  apply c27
  unfold s27
  refine box_of fun t2 m1 hle1 hb2 ho2 => ?_
  replace ho2 : Own m1 t2 [.int .i64 s, .int .i64 f] 0 := ho2
  rw [lda ho2 ag27 sz27, pop_some]
  refine begin53 (hd.le hle1) fun m3 s' f' e hle3 _ => ?_
  have hle := hle1.trans hle3
  simp only [cext, List.getElem?_cons_zero, List.getElem?_cons_succ, pop_some, cb_neq]
  refine alw_of ze98 fun t6 m4 hle4 hb6 ho6 => store_own ho6 (by simp only [toL]; exact sz98) rfl rfl fun m5 hn5 hx5 ho6 => ?_
  simp only [toL] at ho6
  have hle5 := le_of_put hle4 hb6 hn5 hx5
  replace hle := hle.trans hle5
  cases (e != 0) with
  | true => rw [cnd_true, leave2, RK_ret]; exact hK _ _ _ hle
  | false =>
  rw [cnd_false, lda ho6 ag98 sz98, pop_some]
  refine sure54 (hd.le hle) fun m6 x hle6 => ?_
  replace hle := hle.trans hle6
  replace ho6 := ho6.le hle6
  cases x with
  | true => rw [cnd_true, leave2, RK_ret]; exact hK _ _ _ hle
  | false =>
  rw [cnd_false, lda ho6 ag98 sz98, pop_some]
  refine fits55 (hd.le hle) (fun m' a b c K Kp hle' hK => ?_) end58 end59 fun m7 x hle7 => ?_
  · show callw Try.prog 56 ([] ++ [_] ++ [.pointer (some ⟨t6, 0, none⟩)]) m' K Kp
    exact f56_ok (ho6.le hle') hK
  · replace hle := hle.trans hle7
    cases x with
    | true => rw [cnd_true, leave2, RK_ret]; exact hK _ _ _ hle
    | false => rw [cnd_false, leave2, RK_ret]; exact hK _ _ _ hle
end Go.Proofs.Ytbjkpdaigckiiaa.S
end

section
namespace Go.Proofs.Ytbjkpdaigckiiaa
open Go
section
variable {P : Program}
theorem pureRun_bind {α β : Type} (x : Sem α) (f : α → Sem β) : pureRun P (x >>= f) = (pureRun P x).bind fun a => pureRun P (f a) := by
  show pureRun P (Sem.bind x f) = _
  induction x with
  | pure a => simp [Sem.bind, pureRun]
  | program k ih => simp only [Sem.bind, pureRun]; exact ih _
  | mark a k ih => simp only [Sem.bind, pureRun]; exact ih
  | choose q k ih =>
    simp only [Sem.bind, pureRun]
    split
    · exact ih _
    · rfl
  | _ => simp [Sem.bind, pureRun]
theorem pureRun_pure {α : Type} (a : α) : pureRun P (pure a) = some a := rfl
def PrT {α : Type} (P : Program) (x : Sem α) : Prop := ∃ a, pureRun P x = some a
theorem PrT.bind {α β : Type} {x : Sem α} {f : α → Sem β} (hx : PrT P x) (hf : ∀ a, pureRun P x = some a → PrT P (f a)) : PrT P (x >>= f) := by
  obtain ⟨a, ha⟩ := hx
  obtain ⟨b, hb⟩ := hf a ha
  exact ⟨b, by rw [pureRun_bind, ha]; exact hb⟩
theorem PrT.pure {α : Type} (a : α) : PrT P (pure a) := ⟨a, rfl⟩
theorem PrT.forIn {α β : Type} (f : α → β → Sem (ForInStep β)) : ∀ (l : List α) (b : β), (∀ a ∈ l, ∀ b, PrT P (f a b)) → PrT P (forIn l b f)
  | [], b, _ => by rw [List.forIn_nil]; exact PrT.pure b
  | a :: l, b, h => by
    rw [List.forIn_cons]
    refine PrT.bind (h a (by simp) b) fun s _ => ?_
    cases s with
    | done b => exact PrT.pure b
    | yield b => exact PrT.forIn f l b fun x hx => h x (by simp [hx])
theorem pr_program : pureRun P program = some P := rfl
theorem pr_underlying {t : TypeId} {d : TypeDesc} (un : P.underlying t = some d) : pureRun P (underlying t) = some d := by
  unfold underlying
  rw [pureRun_bind, pr_program, Option.bind_some, un]; rfl
theorem PrT.equal_int {t : TypeId} {k : IntKind} (un : P.underlying t = some (.int k)) (d : Nat) (a b : Int) : PrT P (Op.equalIn (d + 1) t (.int k a) (.int k b)) := by
  unfold Op.equalIn
  refine PrT.bind ⟨_, pr_underlying un⟩ fun dd hd => ?_
  rw [pr_underlying un] at hd; cases hd
  simp only [if_true]
  exact PrT.pure _
theorem PrT.equal_bool {t : TypeId} (un : P.underlying t = some .bool) (d : Nat) (a b : Bool) : PrT P (Op.equalIn (d + 1) t (.bool a) (.bool b)) := by
  unfold Op.equalIn
  refine PrT.bind ⟨_, pr_underlying un⟩ fun dd hd => ?_
  rw [pr_underlying un] at hd; cases hd
  exact PrT.pure _
theorem PrT.equal_str {t : TypeId} (un : P.underlying t = some .string) (d : Nat) (a b : ByteArray) : PrT P (Op.equalIn (d + 1) t (.string a) (.string b)) := by
  unfold Op.equalIn
  refine PrT.bind ⟨_, pr_underlying un⟩ fun dd hd => ?_
  rw [pr_underlying un] at hd; cases hd
  exact PrT.pure _
theorem PrT.equal_struct {t : TypeId} {fs : Array Field} (un : P.underlying t = some (.struct fs)) (hst : P.stoodInHeld t = false) (d : Nat) (xs ys : Array Value)
    (h : ∀ f ∈ fs.toList, ∃ u v, pureRun P (part f.type xs f.offset) = some u ∧ pureRun P (part f.type ys f.offset) = some v ∧ PrT P (Op.equalIn d f.type u v)) : PrT P (Op.equalIn (d + 1) t (.agg xs) (.agg ys)) := by
  unfold Op.equalIn
  refine PrT.bind ⟨_, pr_underlying un⟩ fun dd hd => ?_
  rw [pr_underlying un] at hd; cases hd
  refine PrT.bind ⟨_, pr_program⟩ fun pp hp => ?_
  rw [pr_program] at hp; cases hp
  rw [hst]
  simp only [Bool.false_eq_true, if_false]
  rw [← Array.forIn_toList]
  refine PrT.bind (PrT.forIn _ _ _ fun f hf b => ?_) fun r _ => ?_
  · obtain ⟨u, v, hu, hv, he⟩ := h f hf
    split
    · refine PrT.bind ⟨u, hu⟩ fun u' hu' => ?_
      rw [hu] at hu'; cases hu'
      refine PrT.bind ⟨v, hv⟩ fun v' hv' => ?_
      rw [hv] at hv'; cases hv'
      refine PrT.bind he fun b' _ => ?_
      split <;> exact PrT.pure _
    · exact PrT.pure _
  · split <;> exact PrT.pure _
/-- Two structs can be held against each other. -/
theorem eq_total {t : TypeId} {x y : Operand} {l l' : List Value} (hg : P.eqGuardType P.depth t = false) (hl : plainL l = true) (hl' : plainL l' = true) (h : PrT P (Op.equalIn (9999 + 1) t (.agg ⟨l⟩) (.agg ⟨l'⟩))) : ∃ b, cbin P .eql t x y (.agg ⟨l⟩) (.agg ⟨l'⟩) = some (.bool b) := by
  obtain ⟨b, hb⟩ := h
  refine ⟨b, ?_⟩
  unfold cbin
  rw [if_pos (by simp [plainV, hl, hl'])]
  rw [pureRun_bind]
  have h1 : pureRun P (eqGuard .eql t x y (.agg ⟨l⟩) (.agg ⟨l'⟩)) = some () := by
    unfold eqGuard
    simp only [pureRun_bind, pr_program]
    simp [pureRun_bind, pr_program, hg]
    rfl
  rw [h1, Option.bind_some]
  have h2 : pureRun P (binOp .eql t (.agg ⟨l⟩) (.agg ⟨l'⟩)) = some (.bool b) := by
    have he : pureRun P (Op.equal t (.agg ⟨l⟩) (.agg ⟨l'⟩)) = some b := hb
    unfold binOp
    rw [pureRun_bind, he]; rfl
  rw [h2]; rfl
end
end Go.Proofs.Ytbjkpdaigckiiaa
end
