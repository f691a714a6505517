/- Part 12 of 23 of the proof that the law TopAnewStore returns true and leaves its argument as it read before, for every input that the bounded statement admits (what it reads is of bulk at most 1048576). -/
import Derived.KernelRfl
import Derived.Test.YtjkfleibnojjaaaP06
import Derived.Test.YtjkfleibnojjaaaP08
import Derived.Test.YtjkfleibnojjaaaP09
import Derived.Test.YtjkfleibnojjaaaP10
import Derived.Test.YtjkfleibnojjaaaP11
section
open Go Go.Proofs Go.Proofs.Ytjkfleibnojjaaa
set_option maxRecDepth 100000
namespace Go.Proofs.Ytjkfleibnojjaaa.T
theorem heapT : HeapT Try.prog 3 9 27 30 32 := ⟨Try.underlying27, Try.underlying30, sz3, sz9, ze3, ze9, by3, by9, ap27, ap30, sz27, sz30, ag27, ag30, ag3, ag9, Try.underlying9, fa32_0, fa32_1⟩
theorem put8 : PutOk Try.prog 8 [.i] false := putInt_ok heapT fun h => c8 h
theorem put9 : PutOk Try.prog 9 [.i] false := putInt_ok heapT fun h => c9 h
theorem put13 : PutOk Try.prog 13 [.i, .i] true := putS_ok (fs := [(43, 0, 3, 8), (43, 1, 3, 8)]) (.cons (t := [.i]) (a := false) fz43_0 ag3 sz3 (by decide) put8 (.cons (t := [.i]) (a := false) fz43_1 ag3 sz3 (by decide) put8 (.nil))) fun h => c13 h
theorem put18 : PutOk Try.prog 18 [.sl [.i]] false := by
  intro F h B m l k K Kp hp hw hB hK
  apply c18
  unfold s18
  refine puts_ok heapT Try.underlying27 sz3 ag3 (by decide) rfl put8 (fun h => c45 h) hp hw hB fun u m' hp' => ?_
  simp only [leave0, RK_ret]
  exact hK _ _ hp'
theorem put68 : PutOk Try.prog 68 [.i, .i] true := putS_ok (fs := [(72, 0, 3, 8), (72, 1, 3, 8)]) (.cons (t := [.i]) (a := false) fz72_0 ag3 sz3 (by decide) put8 (.cons (t := [.i]) (a := false) fz72_1 ag3 sz3 (by decide) put8 (.nil))) fun h => c68 h
theorem put66 : PutOk Try.prog 66 [.sl [.i, .i]] false := by
  intro F h B m l k K Kp hp hw hB hK
  apply c66
  unfold s66
  refine puts_ok heapT Try.underlying64 sz72 ag72 (by decide) rfl put68 (fun h => c67 h) hp hw hB fun u m' hp' => ?_
  simp only [leave0, RK_ret]
  exact hK _ _ hp'
theorem put65 : PutOk Try.prog 65 [.s] false := putText_ok heapT fun h => c65 h
theorem put63 : PutOk Try.prog 63 [.s, .i, .sl [.i, .i]] true := putS_ok (fs := [(66, 0, 9, 65), (66, 1, 3, 8), (66, 2, 64, 66)]) (.cons (t := [.s]) (a := false) fz66_0 ag9 sz9 (by decide) put65 (.cons (t := [.i]) (a := false) fz66_1 ag3 sz3 (by decide) put8 (.cons (t := [.sl [.i, .i]]) (a := false) fz66_2 ag64 sz64 (by decide) put66 (.nil)))) fun h => c63 h
theorem put55 : PutOk Try.prog 55 [.sl [.s, .i, .sl [.i, .i]]] false := by
  intro F h B m l k K Kp hp hw hB hK
  apply c55
  unfold s55
  refine puts_ok heapT Try.underlying24 sz66 ag66 (by decide) rfl put63 (fun h => c62 h) hp hw hB fun u m' hp' => ?_
  simp only [leave0, RK_ret]
  exact hK _ _ hp'
theorem put54 : PutOk Try.prog 54 [.i, .i, .i, .i] true := putS_ok (fs := [(23, 0, 3, 8), (23, 1, 3, 8), (23, 2, 3, 8), (23, 3, 3, 8)]) (.cons (t := [.i]) (a := false) fz23_0 ag3 sz3 (by decide) put8 (.cons (t := [.i]) (a := false) fz23_1 ag3 sz3 (by decide) put8 (.cons (t := [.i]) (a := false) fz23_2 ag3 sz3 (by decide) put8 (.cons (t := [.i]) (a := false) fz23_3 ag3 sz3 (by decide) put8 (.nil))))) fun h => c54 h
theorem put30 : PutOk Try.prog 30 [.i, .i, .i, .i, .i, .sl [.s, .i, .sl [.i, .i]]] true := putS_ok (fs := [(26, 0, 23, 54), (26, 1, 3, 8), (26, 2, 24, 55)]) (.cons (t := [.i, .i, .i, .i]) (a := true) fz26_0 ag23 sz23 (by decide) put54 (.cons (t := [.i]) (a := false) fz26_1 ag3 sz3 (by decide) put8 (.cons (t := [.sl [.s, .i, .sl [.i, .i]]]) (a := false) fz26_2 ag24 sz24 (by decide) put55 (.nil)))) fun h => c30 h
theorem all4 {F : Keep} {h B : Nat} {m : CM} {l : List Value} {k : Nat} {K : Value → CM → Prop} {Kp : List PanicEntry → CM → Prop} (hp : Hp F h B m) (hw : WTL F [.i, .i, .i, .i, .i, .sl [.s, .i, .sl [.i, .i]], .sl [.i], .sl [.i], .i, .i] k l) (hB : B + k ≤ lim) (hK : ∀ u m', Hp F h (B + k) m' → K u m') :
    callw Try.prog 4 [.agg ⟨l⟩, .pointer (some ⟨h, 0, none⟩)] m K Kp :=
  all_ok (fs := [(29, 0, 26, 30), (29, 1, 27, 18), (29, 2, 27, 18), (29, 3, 3, 8), (29, 4, 3, 8)]) (.cons (t := [.i, .i, .i, .i, .i, .sl [.s, .i, .sl [.i, .i]]]) (a := true) fz29_0 ag26 sz26 (by decide) put30 (.cons (t := [.sl [.i]]) (a := false) fz29_1 ag27 sz27 (by decide) put18 (.cons (t := [.sl [.i]]) (a := false) fz29_2 ag27 sz27 (by decide) put18 (.cons (t := [.i]) (a := false) fz29_3 ag3 sz3 (by decide) put8 (.cons (t := [.i]) (a := false) fz29_4 ag3 sz3 (by decide) put8 (.nil)))))) (fun h => c4 h) hp hw hB hK
end Go.Proofs.Ytjkfleibnojjaaa.T
end

section
open Go Go.Proofs Go.Proofs.Ytjkfleibnojjaaa
set_option maxRecDepth 100000
namespace Go.Proofs.Ytjkfleibnojjaaa.T
theorem ldi {b : Nat} {l : List Value} {m : CM} {j : Nat} {n : Int} (h : Own m b l 0) (hj : l[j]? = some (.int .i64 n)) : cload Try.prog 3 (.pointer (some ⟨b, j, none⟩)) m = some (.int .i64 n) := h.cel.z ag3 hj
theorem out31 : OutOk Try.prog 31 := out_ok Try.underlying27 sz3 ag3 (fun h => c31 h) (fun h => c57 h) (fun h => c56 h) (fun h => c64 h)
theorem name34 : NameOk Try.prog 34 := name_ok Try.underlying9 (fun h => c34 h)
theorem out_1 {lo hi x : Int} {m : CM} {K : Value → CM → Prop} {Kp : List PanicEntry → CM → Prop} (h : ∀ b m', m.le m' → (b = false → lo ≤ x ∧ x ≤ hi) → K (.bool b) m') :
    vop (cbuildS Try.prog 27 1 [(0, .int .i64 x)] m) (fun t m1 => callw Try.prog 31 [.int .i64 lo, .int .i64 hi, t] m1 K Kp) :=
  outL Try.underlying27 sz3 ze3 out31 (xs := [x]) (k := 1) rfl (by decide) rfl fun b m' hle hb => h b m' hle fun e => hb e x (by simp)
theorem out_2 {lo hi x y : Int} {m : CM} {K : Value → CM → Prop} {Kp : List PanicEntry → CM → Prop} (h : ∀ b m', m.le m' → (b = false → (lo ≤ x ∧ x ≤ hi) ∧ lo ≤ y ∧ y ≤ hi) → K (.bool b) m') :
    vop (cbuildS Try.prog 27 2 [(0, .int .i64 x), (1, .int .i64 y)] m) (fun t m1 => callw Try.prog 31 [.int .i64 lo, .int .i64 hi, t] m1 K Kp) :=
  outL Try.underlying27 sz3 ze3 out31 (xs := [x, y]) (k := 2) rfl (by decide) rfl fun b m' hle hb => h b m' hle fun e => ⟨hb e x (by simp), hb e y (by simp)⟩
theorem out_1J {lo hi x : Int} {m : CM} {Mv : Value → CM → CM} {Kc : Value → CM → Value → CM → Prop} {Kp : Value → CM → List PanicEntry → CM → Prop} (hV : ∀ t m1, m.le m1 → m1.le (Mv t m1)) (h : ∀ t m1 b m', m.le m1 → (Mv t m1).le m' → m.le m' → (b = false → lo ≤ x ∧ x ≤ hi) → Kc t m1 (.bool b) m') :
    vop (cbuildS Try.prog 27 1 [(0, .int .i64 x)] m) (fun t m1 => m.le m1 ∧ callw Try.prog 31 [.int .i64 lo, .int .i64 hi, t] (Mv t m1) (Kc t m1) (Kp t m1)) :=
  outJ Try.underlying27 sz3 ze3 out31 (xs := [x]) (k := 1) rfl (by decide) rfl hV fun t m1 b m' h1 h2 h3 hb => h t m1 b m' h1 h2 h3 fun e => hb e x (by simp)
/-! ### A store -/
structure StR where
  s : ByteArray
  rent : Int
  v : Value
  n : Nat
  lo : Nat → Int
  hi : Nat → Int
abbrev StR.row (w : StR) : List Value := [.string w.s, .int .i64 w.rent, w.v]
structure StR.In (w : StR) (m : CM) : Prop where
  s : Sl 2 m w.v w.n (fun j => [.int .i64 (w.lo j), .int .i64 (w.hi j)])
  n0 : w.n < 4611686018427387904
theorem StR.In.le {w : StR} {m m' : CM} (h : w.In m) (k : m.le m') : w.In m' := ⟨h.s.le k, h.n0⟩
theorem StR.one {w : StR} {m : CM} (h : w.In m) : w.row.all Ytjkfleibnojjaaa.one = true := by
  have := h.s.one
  simp only [StR.row, List.all_cons, this, List.all_nil, Bool.and_true]; rfl
/-! ### A season -/
structure SeD where
  bend : Int
  days : Int
  jump : Int
  times : Int
  move : Int
  v : Value
  n : Nat
  r : Nat → StR
abbrev SeD.cells (d : SeD) : List Value := [.int .i64 d.bend, .int .i64 d.days, .int .i64 d.jump, .int .i64 d.times, .int .i64 d.move, d.v]
abbrev SeD.candle (d : SeD) : List Value := [.int .i64 d.bend, .int .i64 d.days, .int .i64 d.jump, .int .i64 d.times]
structure SeD.In (d : SeD) (m : CM) : Prop where
  s : Sl 3 m d.v d.n (fun i => (d.r i).row)
  c : ∀ i, i < d.n → (d.r i).In m
  n0 : d.n < 4611686018427387904
theorem SeD.In.le {d : SeD} {m m' : CM} (h : d.In m) (k : m.le m') : d.In m' := ⟨h.s.le k, fun i hi => (h.c i hi).le k, h.n0⟩
structure StR.Ok (w : StR) (nd : Nat) : Prop where
  rent : 0 ≤ w.rent ∧ w.rent ≤ 100000
  n : w.n = nd
  d : 1 ≤ nd ∧ nd ≤ 8
  w : ∀ j, j < nd → (0 ≤ w.lo j ∧ w.lo j ≤ 60) ∧ (0 ≤ w.hi j ∧ w.hi j ≤ 60) ∧ w.lo j ≤ w.hi j
structure SeD.Ok (d : SeD) : Prop where
  jump : 0 ≤ d.jump ∧ d.jump ≤ 60
  days : 1 ≤ d.days ∧ d.days ≤ 8
  times : 1 ≤ d.times ∧ d.times ≤ 8
  move : 0 ≤ d.move ∧ d.move ≤ 100000
  n3 : 1 ≤ d.n ∧ d.n ≤ 3
  r : ∀ i, i < d.n → (d.r i).Ok (d.r 0).n
theorem span38 {m : CM} {i a b : Int} {K : Value → CM → Prop} {Kp : List PanicEntry → CM → Prop} (hK : ∀ m' (e : Int), m.le m' → (e = 0 → (0 ≤ a ∧ a ≤ 60) ∧ (0 ≤ b ∧ b ≤ 60) ∧ a ≤ b) → K (.int .i64 e) m') :
    callw Try.prog 38 [.int .i64 i, .agg ⟨[.int .i64 a, .int .i64 b]⟩] m K Kp := by
  apply c38
  unfold s38
  refine box_of fun t3 m1 hle1 hb1 ho1 => ?_
  simp only [toL] at ho1
  simp only [fz72_0, fz72_1, pop_some]
  rw [ldi ho1 (j := 0) rfl]
  simp only [pop_some]
  rw [ldi ho1 (j := 1) rfl]
  simp only [pop_some]
  refine out_2 fun b2 m2 hle2 h2 => ?_
  have hle := hle1.trans hle2
  cases b2 with
  | true => rw [cnd_true, leave1, RK_ret]; exact hK _ _ hle (fun h => absurd h (by decide))
  | false =>
  have h2' := h2 rfl
  rw [cnd_false, ldi (ho1.le hle2) (j := 0) rfl]
  simp only [pop_some]
  rw [ldi (ho1.le hle2) (j := 1) rfl]
  simp only [pop_some, cb_gtr]
  cases hd : decide (b < a) with
  | true => rw [cnd_true, leave1, RK_ret]; exact hK _ _ hle (fun h => absurd h (by decide))
  | false => rw [cnd_false, leave1, RK_ret]; exact hK _ _ hle (fun _ => ⟨h2'.1, h2'.2, by simpa using hd⟩)
set_option maxHeartbeats 1000000 in
theorem store33 {d : SeD} {m : CM} (hd : d.In m) {t1 : Nat} (h1 : Own m t1 d.cells 0) {i : Nat} (hi : i < d.n) {K : Value → CM → Prop} {Kp : List PanicEntry → CM → Prop} (hK : ∀ m' (e : Int), m.le m' → (e = 0 → (d.r i).Ok (d.r 0).n) → K (.int .i64 e) m') :
    callw Try.prog 33 [.int .i64 i, .agg ⟨(d.r i).row⟩, .pointer (some ⟨t1, 0, none⟩)] m K Kp := by
  have hn := hd.n0
  have hr := hd.c i hi
  have hr0 := hd.c 0 (by omega)
  have hrn := hr.n0
  have hr0n := hr0.n0
  apply c33
  unfold s33
  refine box_of fun t4 m1 hle1 hb4 ho4 => ?_
  replace ho4 : Own m1 t4 (d.r i).row 0 := ho4
  simp only [fz66_0, fz66_1, fz66_2, fz26_2, pop_some]
  rw [ho4.cel.z ag9 (j := 0) rfl, pop_some]
  refine name34 m1 _ _ _ fun m3 t3 hle3 => ?_
  rw [cun_not, pop_some]
  have hle := hle1.trans hle3
  replace ho4 := ho4.le hle3
  have no : ∀ {m' : CM} {e : Int}, m.le m' → e ≠ 0 → leaveV Try.prog [.v (.int .i64 e)] [] .ret m' (RK K Kp) := fun h he => by rw [leave1, RK_ret]; exact hK _ _ h (fun h => absurd h he)
  cases t3 with
  | false => rw [show (!false) = true from rfl, cnd_true]; exact no hle (by decide)
  | true =>
  rw [show (!true) = false from rfl, cnd_false, (h1.le hle).cel.z ag24 (j := 5) rfl, pop_some]
  obtain ⟨v', hv', hs'⟩ := (hd.s.le hle).pre Try.underlying24 sz66 (by decide) (i := i) (by omega) (by omega) (by omega) (.refl m3)
  rw [hv', pop_some]
  simp only [Int.toNat_natCast] at hs'
  refine c35 (con_ok (fun h => c58 h) Try.underlying24 sz66 ag66 (by decide) hs' (by omega) (fun _ _ => True) (fun k m' hk hle' => ?_) fun m4 t4' hle4 _ _ => ?_)
  · show callw Try.prog 36 ([] ++ [.agg ⟨(d.r k).row⟩] ++ [.pointer (some ⟨t4, 0, none⟩)]) m' _ _
    apply c36
    unfold s36
    refine box_of fun t2 m5 hle5 hb2 ho2 => ?_
    simp only [toL, elv] at ho2
    simp only [fz66_0, pop_some]
    rw [ho2.cel.z ag9 rfl]
    simp only [pop_some]
    rw [((ho4.le hle').le hle5).cel.z ag9 rfl]
    simp only [pop_some, cb_eql_str]
    rw [leave1, RK_ret]
    exact ⟨_, rfl, hle5, trivial⟩
  replace hle := hle.trans hle4
  replace ho4 := ho4.le hle4
  cases t4' with
  | true => rw [cnd_true]; exact no hle (by decide)
  | false =>
  rw [cnd_false, ldi ho4 (j := 1) rfl]
  simp only [pop_some]
  refine out_1 fun b5 m5 hle5 h5 => ?_
  replace hle := hle.trans hle5
  replace ho4 := ho4.le hle5
  cases b5 with
  | true => rw [cnd_true]; exact no hle (by decide)
  | false =>
  have h5' := h5 rfl
  rw [cnd_false, ho4.cel.z ag64 (j := 2) rfl]
  simp only [pop_some]
  rw [hr.s.len Try.underlying64]
  simp only [pop_some]
  refine out_1J (fun t m1 h => view1 h (Nat.le_refl _) rfl) fun t m6 b6 m7 hle6 hle7 hle67 h6 => ⟨hle7, ?_⟩
  have h7n : m6.next ≤ m7.next := hle7.1
  have hV : ∀ (E : List Ent) (sel : Nat → Bool), (memJ m5 E sel m7.next).t = ((m5.over m5.next (m6.next - m5.next) m6).over m6.next (m7.next - m6.next) m7).t → m5.le (memJ m5 E sel m7.next) := fun E sel h => hle6.trans (viewS hle6 h7n h).1
  cases b6 with
  | true =>
    simp only [gb_bool, Bool.true_beq, dgs_false, gop_false, cpick_bool, if_true, pop_some, cnd_true]
    exact no (hle.trans (hV _ _ rfl)) (by decide)
  | false =>
  have h6' := h6 rfl
  simp only [gb_bool, beq_self_eq_true, dgs_true, gop_true, fz66_2, fz26_2, pop_some]
  rw [(ho4.le (hV _ _ rfl)).cel.z ag64 (j := 2) rfl]
  simp only [pop_some]
  rw [hr.s.len Try.underlying64]
  simp only [pop_some]
  rw [((h1.le hle).le (hV _ _ rfl)).cel.z ag24 (j := 5) rfl]
  simp only [pop_some]
  obtain ⟨b, o, hia, hcel, hlen⟩ := (hd.s.le hle).at Try.underlying24 sz66 (i := 0) (by omega) (by omega)
  simp only [Int.toNat_zero] at hcel
  rw [hia]
  simp only [pop_some, fa66_2]
  rw [(hcel.le (hV _ _ rfl)).s ag64 (j := 2) rfl]
  simp only [pop_some]
  rw [hr0.s.len Try.underlying64]
  simp only [pop_some, cb_neq, cpick_bool, Bool.false_eq_true, if_false]
  generalize hMV : memJ m5 _ (fun _ => true) m7.next = MV
  have hleV : m5.le MV := hMV ▸ hV _ _ rfl
  clear hMV
  replace hle := hle.trans hleV
  replace ho4 := ho4.le hleV
  cases hbn : (((d.r i).n : Int) != ((d.r 0).n : Int)) with
  | true => rw [cnd_true]; exact no hle (by decide)
  | false =>
  have hnn : (d.r i).n = (d.r 0).n := by simp at hbn; omega
  rw [cnd_false, ho4.cel.z ag64 (j := 2) rfl]
  simp only [pop_some]
  refine first_ok (fun h => c37 h) Try.underlying64 sz72 ag72 (by decide) ze72 rfl hrn (row := fun j => [.int .i64 ((d.r i).lo j), .int .i64 ((d.r i).hi j)])
    (Inv := fun k m' => MV.le m' ∧ ∀ j, j < k → (0 ≤ (d.r i).lo j ∧ (d.r i).lo j ≤ 60) ∧ (0 ≤ (d.r i).hi j ∧ (d.r i).hi j ≤ 60) ∧ (d.r i).lo j ≤ (d.r i).hi j) (J := fun _ m' => MV.le m') (fun _ _ => rfl) (fun k m' h => (hr.s.le hle).le h.1) (fun k m' m2 h q => ⟨h.1.trans q, h.2⟩)
    (fun k m' K Kp hk hm hkk => ?_) ⟨.refl MV, fun j hj => by omega⟩ fun m8 x e g0 g1 => ?_
  · show callw Try.prog 38 ([] ++ [.int .i64 k, .agg ⟨[.int .i64 ((d.r i).lo k), .int .i64 ((d.r i).hi k)]⟩] ++ []) m' _ _
    refine span38 fun m2 e hle2 he => hkk m2 e (fun h => ⟨hm.1.trans hle2, fun j hj => ?_⟩) fun _ => hm.1.trans hle2
    by_cases ej : j = k
    · subst ej; exact he h
    · exact hm.2 j (by omega)
  · simp only [cext, List.getElem?_cons_zero, List.getElem?_cons_succ, pop_some]
    rw [leave1, RK_ret]
    by_cases he : e = 0
    · have := g0 he
      exact hK _ _ (hle.trans this.1) fun _ => ⟨h5', hnn, by omega, fun j hj => this.2 j (by omega)⟩
    · exact hK _ _ (hle.trans (g1 he)) fun h => absurd h he
set_option maxHeartbeats 1000000 in
theorem check7 {d : SeD} {m : CM} (hd : d.In m) {K : Value → CM → Prop} {Kp : List PanicEntry → CM → Prop} (hK : ∀ (p a e : Int) m', m.le m' → (e = 0 → d.Ok) → K (.tuple ⟨[.int .i64 p, .int .i64 a, .int .i64 e]⟩) m') :
    callw Try.prog 7 [.agg ⟨d.cells⟩] m K Kp := by
  have hn0 := hd.n0
  apply c7
  unfold s7
  refine box_of fun t1 m1 hle1 hb1 ho1 => ?_
  replace ho1 : Own m1 t1 d.cells 0 := ho1
  simp only [fz26_0, fz26_1, fz26_2, pop_some]
  rw [show cload Try.prog 23 (.pointer (some ⟨t1, 0, none⟩)) m1 = some (.agg ⟨d.candle⟩) from ho1.cel.za ag23 sz23 (j := 0) (by simp), pop_some]
  refine alw_of ze23 fun t5 m2 hle2 hb5 ho5 => store_own ho5 (by simp [toL, sz23]) (by simp [toL]) rfl fun m3 hn3 hx3 ho5 => ?_
  simp only [toL] at ho5
  have hle3 := le_of_put hle2 hb5 hn3 hx3
  have hle := hle1.trans hle3
  replace ho1 := ho1.le hle3
  simp only [fz23_0, fz23_1, fz23_2, fz23_3, pop_some]
  rw [ldi ho5 (j := 0) rfl]
  simp only [pop_some]
  rw [ldi ho5 (j := 2) rfl]
  simp only [pop_some]
  have no : ∀ {m' : CM} {p a e : Int}, m.le m' → e ≠ 0 → leaveV Try.prog [.v (.int .i64 p), .v (.int .i64 a), .v (.int .i64 e)] [] .ret m' (RK K Kp) := fun h he => by rw [leave3, RK_ret]; exact hK _ _ _ _ h (fun h => absurd h he)
  refine out_2 fun b4 m4 hle4 h4 => ?_
  replace hle := hle.trans hle4
  replace ho1 := ho1.le hle4
  replace ho5 := ho5.le hle4
  cases b4 with
  | true =>
    simp only [gb_bool, Bool.true_beq, gop_false, cpick_bool, if_true, pop_some, cnd_true]
    exact no hle (by decide)
  | false =>
  have h4' := h4 rfl
  simp only [gb_bool, beq_self_eq_true, gop_true]
  rw [ldi ho5 (j := 1) rfl]
  simp only [pop_some]
  rw [ldi ho5 (j := 3) rfl]
  simp only [pop_some]
  refine out_2 fun b6 m6 hle6 h6 => ?_
  replace hle := hle.trans hle6
  replace ho1 := ho1.le hle6
  simp only [cpick_bool, Bool.false_eq_true, if_false, pop_some]
  cases b6 with
  | true =>
    simp only [gb_bool, Bool.true_beq, gop_false, cpick_bool, if_true, pop_some, cnd_true]
    exact no hle (by decide)
  | false =>
  have h6' := h6 rfl
  simp only [gb_bool, beq_self_eq_true, gop_true]
  rw [ldi ho1 (j := 4) rfl]
  simp only [pop_some]
  refine out_1 fun b7 m7 hle7 h7 => ?_
  replace hle := hle.trans hle7
  replace ho1 := ho1.le hle7
  simp only [cpick_bool, Bool.false_eq_true, if_false, pop_some]
  cases b7 with
  | true => rw [cnd_true]; exact no hle (by decide)
  | false =>
  have h7' := h7 rfl
  rw [cnd_false, ho1.cel.z ag24 (j := 5) rfl, pop_some, hd.s.len Try.underlying24, pop_some]
  refine out_1 fun b8 m8 hle8 h8 => ?_
  replace hle := hle.trans hle8
  replace ho1 := ho1.le hle8
  cases b8 with
  | true => rw [cnd_true]; exact no hle (by decide)
  | false =>
  have h8' := h8 rfl
  rw [cnd_false, ho1.cel.z ag24 (j := 5) rfl, pop_some]
  refine first_ok (fun h => c32 h) Try.underlying24 sz66 ag66 (by decide) ze66 rfl hn0 (row := fun i => (d.r i).row) (Inv := fun k m' => m8.le m' ∧ ∀ j, j < k → (d.r j).Ok (d.r 0).n) (J := fun _ m' => m8.le m') (fun i hi => StR.one (hd.c i hi)) (fun i m' h => (hd.s.le hle).le h.1) (fun i m' m2 h k => ⟨h.1.trans k, h.2⟩)
    (fun i m' K Kp hi hm hk => ?_) ⟨.refl m8, fun j hj => by omega⟩ fun m9 x e g0 g1 => ?_
  · show callw Try.prog 33 ([] ++ [.int .i64 i, .agg ⟨(d.r i).row⟩] ++ [.pointer (some ⟨t1, 0, none⟩)]) m' _ _
    refine store33 (hd.le (hle.trans hm.1)) (ho1.le hm.1) hi fun m2 e h he => hk m2 e (fun h0 => ⟨hm.1.trans h, fun j hj => ?_⟩) (fun _ => hm.1.trans h)
    by_cases ej : j = i
    · subst ej; exact he h0
    · exact hm.2 j (by omega)
  · have hle9 : m8.le m9 := by
      by_cases he : e = 0
      · exact (g0 he).1
      · exact g1 he
    simp only [cext, List.getElem?_cons_zero, List.getElem?_cons_succ, pop_some, cb_neq]
    cases he : (e != 0) with
    | true => rw [cnd_true]; exact no (hle.trans hle9) (by simpa using he)
    | false =>
      have he0 : e = 0 := by simpa using he
      rw [cnd_false, leave3, RK_ret]
      exact hK _ _ _ _ (hle.trans hle9) fun _ => ⟨h4'.2, h6'.1, h6'.2, h7', by omega, (g0 he0).2⟩
end Go.Proofs.Ytjkfleibnojjaaa.T
end

section
open Go Go.Proofs Go.Proofs.Ytjkfleibnojjaaa
set_option maxRecDepth 100000
namespace Go.Proofs.Ytjkfleibnojjaaa.T
/-! ### next, in plain words -/
def mx (a b : Int) : Int := if b > a then b else a
def jmpP (J a b : Int) : Bool := decide (J < mx (a - b) (b - a))
def upP (J now b n : Int) : Int := match decide (0 < n) && jmpP J b now with | true => n + 1 | false => n
def accL (J now : Int) : List Int → Int → Int → Int
  | [], _, acc => acc
  | n :: l, b, acc => accL J now l (b + 1) (mx acc (upP J now b n))
def zer : List Int := List.replicate 61 0
def seedP (js : List Int) : Int := match decide (js = zer) with | true => 1 | false => 0
def nextP (J lo hi : Int) (js : List Int) : List Int := (List.range 61).map fun (k : Nat) => if lo ≤ (k : Int) ∧ (k : Int) ≤ hi then accL J k js 0 (seedP js) else 0
theorem nextP_len {J lo hi : Int} {js : List Int} : (nextP J lo hi js).length = 61 := by simp [nextP]
theorem nextP_get {J lo hi : Int} {js : List Int} {k : Nat} (hk : k < 61) : (nextP J lo hi js)[k]? = some (if lo ≤ (k : Int) ∧ (k : Int) ≤ hi then accL J k js 0 (seedP js) else 0) := by
  simp [nextP, hk]
theorem nextP_none {J lo hi : Int} {js : List Int} (h : hi < lo) : nextP J lo hi js = zer := by
  apply List.ext_getElem?
  intro k
  by_cases hk : k < 61
  · rw [nextP_get hk, if_neg (by omega), zer, List.getElem?_replicate, if_pos hk]
  · rw [List.getElem?_eq_none (by rw [nextP_len]; omega), List.getElem?_eq_none (by simp [zer]; omega)]
theorem nextP_step {J lo : Int} {js : List Int} {k : Nat} (hk : k < 61) (hl : lo ≤ k) : (nextP J lo (k - 1) js).set k (accL J k js 0 (seedP js)) = nextP J lo k js := by
  apply List.ext_getElem?
  intro i
  rw [List.getElem?_set]
  by_cases hi : i < 61
  · rw [nextP_get hi, nextP_get hi, nextP_len]
    by_cases e : k = i
    · subst e; simp [hk, hl]
    · rw [if_neg e]
      congr 1
      by_cases h : lo ≤ (i : Int) ∧ (i : Int) ≤ k
      · rw [if_pos h, if_pos (by omega)]
      · rw [if_neg h, if_neg (by omega)]
  · rw [List.getElem?_eq_none (by rw [nextP_len]; omega), List.getElem?_eq_none (by rw [nextP_len]; omega)]
    split
    · omega
    · rfl
theorem nextP_hole {J lo : Int} {js : List Int} {k : Nat} (hk : k < 61) : (nextP J lo (k - 1) js).set k 0 = nextP J lo (k - 1) js := by
  apply List.ext_getElem?
  intro i
  rw [List.getElem?_set]
  by_cases e : k = i
  · subst e
    rw [if_pos rfl, nextP_get hk, nextP_len, if_pos hk, if_neg (by omega)]
  · rw [if_neg e]
/-! ### What cells hold -/
theorem cmm_max_is {a b : Int} : cmm Try.prog .max [.int .i64 a, .int .i64 b] = some (.int .i64 (mx a b)) := by
  simp only [cmm, plainL, plainV, Bool.and_self, if_true, Builtin.max_, List.foldlM_cons, List.foldlM_nil, Builtin.max2]
  rfl
theorem jump44 {c : List Value} {J : Int} {m : CM} (hc : c.length = 4) (h1 : c[2]? = some (.int .i64 J)) {a b : Int} (ha : 0 ≤ a ∧ a ≤ 60) (hb : 0 ≤ b ∧ b ≤ 60) {K : Value → CM → Prop} {Kp : List PanicEntry → CM → Prop}
    (hK : ∀ m', m.le m' → m'.next = m.next + 1 → K (.bool (jmpP J a b)) m') : callw Try.prog 44 [.agg ⟨c⟩, .int .i64 a, .int .i64 b] m K Kp := by
  apply c44
  unfold s44
  refine ⟨?_⟩
  have ho : Own (m.alloc (.cells (toL (.agg ⟨c⟩)) 0 true)) m.next c 0 := ⟨by simp, by rw [CM.get_alloc, if_pos rfl]; rfl⟩
  rw [cb_sub, pop_some, cb_sub, pop_some, wrap_id (n := a - b) (by omega) (by omega), wrap_id (n := b - a) (by omega) (by omega), cmm_max_is, pop_some, fz23_2, pop_some, ldi ho h1, pop_some, cb_gtr, pop_some, leave1, RK_ret]
  exact hK _ (CM.le_alloc ..) (by simp)
theorem cia93 (b : Nat) {n : Int} {i : Nat} (h : n = i) (hi : i < 61) : cia Try.prog 93 (.pointer (some ⟨b, 0, none⟩)) (.int .i64 n) = some (.pointer (some ⟨b, i, none⟩)) := by
  subst h
  have : (i : Int) < 61 := by omega
  have hu : Try.prog.underlying 93 = some (.array 61 3) := Try.underlying93
  simp [cia, hu, sz3, this]
theorem cix93 {js : List Int} {i : Nat} {n : Int} (h : js[i]? = some n) (hi : i < 61) : cindex Try.prog 93 (.agg ⟨iv js⟩) (.int .i64 i) = some (.int .i64 n) := by
  have hu : Try.prog.underlying 93 = some (.array 61 3) := Try.underlying93
  have : (i : Int) < 61 := by omega
  simp [cindex, hu, sz3, this, cpart, ag3, h]
theorem hcb93 : cbuild Try.prog 93 [] = some (.agg ⟨iv zer⟩) := by kernel_rfl
theorem ze93' : zeroL Try.prog 93 = some (iv zer) := by kernel_rfl
theorem eq93 {x y : Operand} {js ks : List Int} (h : js.length = 61) (hk : ks.length = 61) : cbin Try.prog .eql 93 x y (.agg ⟨iv js⟩) (.agg ⟨iv ks⟩) = some (.bool (decide (js = ks))) :=
  eq_exact (by kernel_rfl) (plainL_iv _) (plainL_iv _) (eq_ints (n := 61) Try.underlying93 Try.underlying3 sz3 ag3 9998 h hk)
theorem iv_set {js : List Int} {k : Nat} {n : Int} (h : k < js.length) : splice (iv js) k [.int .i64 n] = iv (js.set k n) := by
  rw [splice_set (by simpa using h)]; simp [iv]
theorem zer_len : zer.length = 61 := by simp [zer]
theorem set_get {l : List Int} {k : Nat} {v : Int} (h : k < l.length) : (l.set k v)[k]? = some v := by simp [h]
theorem drop_cons {js : List Int} {k : Nat} {n : Int} (h : js[k]? = some n) : js.drop k = n :: js.drop (k + 1) := by
  obtain ⟨hl, he⟩ := List.getElem?_eq_some_iff.1 h
  rw [List.drop_eq_getElem_cons hl, he]
set_option maxHeartbeats 2000000 in
/-- next: the value in plain words, and how many blocks at most. -/
theorem next42 {c : List Value} {J : Int} {m : CM} (hc : c.length = 4) (hc1 : c[2]? = some (.int .i64 J)) (hone : c.all one = true) {js : List Int} (hj : js.length = 61) (hb : ∀ u ∈ js, u ≤ 1000000) {lo hi : Int} (hlo : 0 ≤ lo) (hhi : hi ≤ 60) (hlh : lo ≤ hi)
    {K : Value → CM → Prop} {Kp : List PanicEntry → CM → Prop} (hK : ∀ m', m.le m' → m'.next ≤ m.next + 4000 → K (.agg ⟨iv (nextP J lo hi js)⟩) m') :
    callw Try.prog 42 [.agg ⟨iv js⟩, .agg ⟨c⟩, .agg ⟨[.int .i64 lo, .int .i64 hi]⟩] m K Kp := by
  apply c42
  unfold s42
  refine box_n fun t3 m1 e3 n1 hle1 o3 => box_n fun t4 m2 e4 n2 hle2 o4 => box_n fun t5 m3 e5 n3 hle3 o5 => alw_n ze93' fun t6 M e6 n6 hle6 o6 => ?_
  obtain rfl : t4 = t3 + 1 := by omega
  obtain rfl : t5 = t3 + 2 := by omega
  obtain rfl : t6 = t3 + 3 := by omega
  have hMn : M.next = t3 + 4 := by omega
  have hle := ((hle1.trans hle2).trans hle3).trans hle6
  replace o3 : Own M t3 (iv js) 0 := ((o3.le hle2).le hle3).le hle6
  replace o4 : Own M (t3 + 1) c 0 := (o4.le hle3).le hle6
  replace o5 : Own M (t3 + 2) [.int .i64 lo, .int .i64 hi] 0 := o5.le hle6
  have h3 : m.next = t3 := e3.symm
  clear e3 e4 e5 e6 n1 n2 n3 n6 hle1 hle2 hle3 hle6
  simp only [fz72_0, pop_some]
  rw [ldi o5 (j := 0) rfl, pop_some]
  obtain ⟨lon, rfl⟩ : ∃ k : Nat, lo = (k : Int) := ⟨lo.toNat, by omega⟩
  refine loopA_of (fun l0 ds m' => ds = [] ∧ m.le m' ∧ Own m' t3 (iv js) 0 ∧ Own m' (t3 + 1) c 0 ∧ Own m' (t3 + 2) [.int .i64 lon, .int .i64 hi] 0 ∧ ∃ k : Nat, lon ≤ k ∧ (k : Int) ≤ hi + 1 ∧ Own m' (t3 + 3) (iv (nextP J lon (k - 1) js)) 0 ∧ m'.next ≤ t3 + 4 + 61 * (k - lon) ∧
      l0 = [.pointer (some ⟨t3, 0, none⟩), .pointer (some ⟨t3 + 1, 0, none⟩), .pointer (some ⟨t3 + 2, 0, none⟩), .pointer (some ⟨t3 + 3, 0, none⟩), .int .i64 k])
    (fun l0 _ => match l0 with | [_, _, _, _, .int _ x] => (hi + 1 - x).toNat | _ => 0) ⟨rfl, hle, o3, o4, o5, lon, Nat.le_refl _, by omega, by rw [nextP_none (by omega)]; exact o6, by omega, rfl⟩ ?_
  clear o3 o4 o5 o6 hle hMn
  rintro X ρ ds m' ⟨rfl, hle, o3, o4, o5, k, hk0, hk1, o6, hnx, hll⟩ hX
  simp only [List.map_cons, List.map_nil, List.cons.injEq, and_true] at hll
  obtain ⟨q3, q4, q5, q6, q7⟩ := hll
  simp only [q3, q4, q5, q6, q7, fz72_1, pop_some]
  rw [ldi o5 (j := 1) rfl, pop_some, cb_leq, pop_some]
  have b3 := o3.1; have b4 := o4.1; have b5 := o5.1; have b6 := o6.1
  by_cases hkh : (k : Int) ≤ hi
  · have hk61 : k < 61 := by omega
    rw [show decide ((k : Int) ≤ hi) = true by simpa using hkh, cnd_true, lda o3 ag93 (by simpa [hj] using sz93), pop_some, hcb93, pop_some, eq93 hj zer_len, pop_some]
    -- the loop over the jumps of the day before
    have inner : ∀ {m1 : CM}, m.le m1 → Own m1 t3 (iv js) 0 → Own m1 (t3 + 1) c 0 → Own m1 (t3 + 2) [.int .i64 lon, .int .i64 hi] 0 → Own m1 (t3 + 3) (iv ((nextP J lon (k - 1) js).set k (seedP js))) 0 → m1.next ≤ t3 + 4 + 61 * (k - lon) →
        j42_0 (RK K Kp) X (.pointer (some ⟨t3, 0, none⟩)) (.pointer (some ⟨t3 + 1, 0, none⟩)) (.pointer (some ⟨t3 + 2, 0, none⟩)) (.pointer (some ⟨t3 + 3, 0, none⟩)) (.int .i64 k) [] m1 := by
      intro m1 h1 p3 p4 p5 p6 hn1
      unfold j42_0
      rw [lda p3 ag93 (by simpa [hj] using sz93), pop_some]
      refine loopA_of (fun l0 ds m' => ds = [] ∧ m.le m' ∧ Own m' t3 (iv js) 0 ∧ Own m' (t3 + 1) c 0 ∧ Own m' (t3 + 2) [.int .i64 lon, .int .i64 hi] 0 ∧ ∃ (i : Nat) (acc : Int), i ≤ 61 ∧ accL J k (js.drop i) i acc = accL J k js 0 (seedP js) ∧ Own m' (t3 + 3) (iv ((nextP J lon (k - 1) js).set k acc)) 0 ∧ m'.next ≤ t3 + 4 + 61 * (k - lon) + i ∧
          l0 = [.pointer (some ⟨t3, 0, none⟩), .pointer (some ⟨t3 + 1, 0, none⟩), .pointer (some ⟨t3 + 2, 0, none⟩), .pointer (some ⟨t3 + 3, 0, none⟩), .int .i64 k, .agg ⟨iv js⟩, .int .i64 i])
        (fun l0 _ => match l0 with | [_, _, _, _, _, _, .int _ x] => (61 - x).toNat | _ => 0) ⟨rfl, h1, p3, p4, p5, 0, seedP js, by omega, by simp, p6, by omega, rfl⟩ ?_
      clear p3 p4 p5 p6 hn1 h1
      rintro X2 ρ2 ds m2 ⟨rfl, h2, p3, p4, p5, i, acc, hi61, hacc, p6, hn2, hll⟩ hX2
      simp only [List.map_cons, List.map_nil, List.cons.injEq, and_true] at hll
      obtain ⟨r3, r4, r5, r6, r7, r23, r24⟩ := hll
      simp only [r3, r4, r5, r6, r7, r23, r24, cb_lss, pop_some]
      have d3 := p3.1; have d4 := p4.1; have d5 := p5.1; have d6 := p6.1
      by_cases hi2 : i < 61
      · obtain ⟨n, hn⟩ : ∃ n, js[i]? = some n := ⟨js[i], List.getElem?_eq_getElem (by omega)⟩
        have hnb : n ≤ 1000000 := hb n (List.mem_of_getElem? hn)
        rw [show decide ((i : Int) < (61 : Int)) = true by simpa using (by omega : (i : Int) < 61), cnd_true, cix93 hn hi2, pop_some, cb_gtr, pop_some]
        have go : ∀ {m3 : CM} {n' : Int}, m.le m3 → Own m3 t3 (iv js) 0 → Own m3 (t3 + 1) c 0 → Own m3 (t3 + 2) [.int .i64 lon, .int .i64 hi] 0 → Own m3 (t3 + 3) (iv ((nextP J lon (k - 1) js).set k acc)) 0 → m3.next ≤ t3 + 4 + 61 * (k - lon) + i + 1 → n' = upP J k i n →
            j42_1 (RK K Kp) X X2 (.int .i64 k) (.pointer (some ⟨t3 + 3, 0, none⟩)) (.int .i64 n') (.int .i64 i) (.pointer (some ⟨t3, 0, none⟩)) (.pointer (some ⟨t3 + 1, 0, none⟩)) (.pointer (some ⟨t3 + 2, 0, none⟩)) (.agg ⟨iv js⟩) [] m3 := by
          intro m3 n' h3' p3 p4 p5 p6 hn3 hn'
          subst hn'
          unfold j42_1
          have hlen : k < ((nextP J lon (k - 1) js).set k acc).length := by rw [List.length_set, nextP_len]; exact hk61
          rw [cia93 _ rfl hk61, pop_some, ldi p6 (iv_get (set_get (by rw [nextP_len]; exact hk61))), pop_some, cmm_max_is, pop_some, pop_some]
          refine p6.store (by simp [toL, sz3]) (by simp [toL, nextP_len]; omega) rfl fun m4 hn4 hx4 p6' => ?_
          simp only [toL] at p6'
          rw [iv_set hlen, List.set_set] at p6'
          rw [cb_add, pop_some, wrap_id (by omega) (by omega)]
          refine hX2 _ _ _ ⟨rfl, le_of_put h3' (by omega) hn4 hx4, p3.sub hn4 (hx4 _ (by omega)), p4.sub hn4 (hx4 _ (by omega)), p5.sub hn4 (hx4 _ (by omega)), i + 1, _, by omega, ?_, p6', by omega, by simp⟩ ?_
          · rw [← hacc, drop_cons hn]; simp [accL]
          · simp only [List.map_cons, List.map_nil, r24]; omega
        cases hd : decide (0 < n) with
        | false =>
          simp only [gb_bool, Bool.false_beq, Bool.not_true, gop_false, cpick_bool, Bool.false_eq_true, if_false, pop_some, cnd_false]
          exact go h2 p3 p4 p5 p6 (by omega) (by simp [upP, hd])
        | true =>
          simp only [gb_bool, beq_self_eq_true, gop_true]
          rw [lda p4 ag23 (by rw [hc]; exact sz23)]
          simp only [pop_some]
          refine jump44 hc hc1 ⟨by omega, by omega⟩ ⟨by omega, by omega⟩ fun m3 hle3 hn3 => ?_
          simp only [cpick_bool, if_true, pop_some]
          cases hjm : jmpP J i k with
          | false =>
            rw [cnd_false]
            exact go (h2.trans hle3) (p3.le hle3) (p4.le hle3) (p5.le hle3) (p6.le hle3) (by omega) (by simp [upP, hd, hjm])
          | true =>
            rw [cnd_true, cb_add, pop_some, wrap_id (by have : 0 < n := by simpa using hd
                                                        omega) (by omega)]
            exact go (h2.trans hle3) (p3.le hle3) (p4.le hle3) (p5.le hle3) (p6.le hle3) (by omega) (by simp [upP, hd, hjm])
      · rw [show decide ((i : Int) < (61 : Int)) = false by simpa using (by omega : ¬ (i : Int) < 61), cnd_false]
        have hi61' : i = 61 := by omega
        subst hi61'
        rw [List.drop_eq_nil_of_le (by omega)] at hacc
        simp only [accL] at hacc
        subst hacc
        rw [nextP_step hk61 (by omega)] at p6
        rw [cb_add, pop_some, wrap_id (by omega) (by omega)]
        refine hX _ _ _ ⟨rfl, h2, p3, p4, p5, k + 1, by omega, by omega, by simpa using p6, by omega, by simp⟩ ?_
        simp only [List.map_cons, List.map_nil, q7]; omega
    cases hz : decide (js = zer) with
    | true =>
      rw [cnd_true, cia93 _ rfl hk61, pop_some]
      refine o6.store (by simp [toL, sz3]) (by simp [toL, nextP_len]; omega) rfl fun m4 hn4 hx4 o6' => ?_
      simp only [toL] at o6'
      rw [iv_set (by rw [nextP_len]; exact hk61)] at o6'
      refine inner (le_of_put hle (by omega) hn4 hx4) (o3.sub hn4 (hx4 _ (by omega))) (o4.sub hn4 (hx4 _ (by omega))) (o5.sub hn4 (hx4 _ (by omega))) ?_ (by omega)
      rw [show seedP js = 1 by simp [seedP, hz]]; exact o6'
    | false =>
      rw [cnd_false]
      refine inner hle o3 o4 o5 ?_ hnx
      rw [show seedP js = 0 by simp [seedP, hz], nextP_hole hk61]; exact o6
  · rw [show decide ((k : Int) ≤ hi) = false by simpa using hkh, cnd_false]
    have hk' : (k : Int) - 1 = hi := by omega
    rw [hk'] at o6
    rw [lda o6 ag93 (by simpa [nextP_len] using sz93), pop_some]
    refine store_own o6 (by simpa [toL, nextP_len] using sz93) (by simp [toL]) (by simpa [toL] using iv_one _) fun m5 hn5 hx5 o6 => ?_
    simp only [toL] at o6
    refine leave_rvs (.c (lda o6 ag93 (by simpa [nextP_len] using sz93)) .nil) ?_
    show RK K Kp (.ret (.agg ⟨_⟩)) m5
    rw [RK_ret]
    refine hK _ (le_of_put hle (by omega) hn5 hx5) (by omega)
end Go.Proofs.Ytjkfleibnojjaaa.T
end

section
open Go Go.Proofs Go.Proofs.Ytjkfleibnojjaaa
set_option maxRecDepth 100000
namespace Go.Proofs.Ytjkfleibnojjaaa.T
/-! ### Of next, in plain words -/
theorem mx_le {a b c : Int} (h1 : a ≤ c) (h2 : b ≤ c) : mx a b ≤ c := by unfold mx; split <;> assumption
theorem le_mx1 (a b : Int) : a ≤ mx a b := by unfold mx; split <;> omega
theorem le_mx2 (a b : Int) : b ≤ mx a b := by unfold mx; split <;> omega
theorem mx_or (a b : Int) : mx a b = a ∨ mx a b = b := by unfold mx; split <;> simp
theorem jmpP_comm (J a b : Int) : jmpP J a b = jmpP J b a := by
  unfold jmpP mx
  congr 1
  by_cases h : b - a > a - b
  · rw [if_pos h, if_neg (by omega)]
  · rw [if_neg h]
    by_cases h2 : a - b > b - a
    · rw [if_pos h2]
    · rw [if_neg h2]; simp; omega
theorem upP_le {J k b n B : Int} (h : n ≤ B) : upP J k b n ≤ B + 1 := by unfold upP; split <;> omega
theorem accL_ge {J k : Int} : ∀ {l : List Int} {b acc : Int}, acc ≤ accL J k l b acc
  | [], _, _ => Int.le_refl _
  | n :: l, b, acc => Int.le_trans (le_mx1 acc (upP J k b n)) accL_ge
theorem accL_le {J k B : Int} : ∀ {l : List Int} {b acc : Int}, (∀ n ∈ l, n ≤ B) → acc ≤ B + 1 → accL J k l b acc ≤ B + 1
  | [], _, _, _, h => h
  | n :: l, b, acc, hl, h => by
    show accL J k l (b + 1) _ ≤ _
    exact accL_le (fun x hx => hl x (by simp [hx])) (mx_le h (upP_le (hl n (by simp))))
theorem accL_or {J k : Int} : ∀ {l : List Int} {b acc : Int}, accL J k l b acc = acc ∨ ∃ (i : Nat) (n : Int), l[i]? = some n ∧ accL J k l b acc = upP J k (b + i) n
  | [], _, _ => .inl rfl
  | n :: l, b, acc => by
    rcases accL_or (J := J) (k := k) (l := l) (b := b + 1) (acc := mx acc (upP J k b n)) with h | ⟨i, n', h1, h2⟩
    · rcases mx_or acc (upP J k b n) with e | e
      · exact .inl (by show accL J k l (b + 1) _ = acc; rw [h, e])
      · exact .inr ⟨0, n, rfl, by show accL J k l (b + 1) _ = _; rw [h, e]; simp⟩
    · refine .inr ⟨i + 1, n', by simpa using h1, ?_⟩
      show accL J k l (b + 1) _ = _
      rw [h2]; congr 1; push_cast; omega
theorem seedP_bd (js : List Int) : 0 ≤ seedP js ∧ seedP js ≤ 1 := by unfold seedP; split <;> omega
theorem nextP_mem {J lo hi : Int} {js : List Int} {u : Int} (h : u ∈ nextP J lo hi js) : ∃ k : Nat, k < 61 ∧ u = if lo ≤ (k : Int) ∧ (k : Int) ≤ hi then accL J k js 0 (seedP js) else 0 := by
  simp only [nextP, List.mem_map, List.mem_range] at h
  obtain ⟨k, h1, h2⟩ := h
  exact ⟨k, h1, h2.symm⟩
theorem nextP_bd {J lo hi B : Int} {js : List Int} (hb : ∀ u ∈ js, u ≤ B) (h0 : 0 ≤ B) : ∀ u ∈ nextP J lo hi js, 0 ≤ u ∧ u ≤ B + 1 := fun u hu => by
  obtain ⟨k, _, rfl⟩ := nextP_mem hu
  have hs := seedP_bd js
  split
  · exact ⟨Int.le_trans hs.1 accL_ge, accL_le hb (by omega)⟩
  · omega
/-- The greatest of them. -/
def maxP (js : List Int) : Int := (js.drop 1).foldl mx (js.headD 0)
theorem foldl_mx : ∀ (l : List Int) (a : Int), (a ≤ l.foldl mx a ∧ ∀ u ∈ l, u ≤ l.foldl mx a) ∧ (l.foldl mx a = a ∨ l.foldl mx a ∈ l)
  | [], a => ⟨⟨Int.le_refl _, by simp⟩, .inl rfl⟩
  | x :: l, a => by
    obtain ⟨⟨h1, h2⟩, h3⟩ := foldl_mx l (mx a x)
    have e1 := le_mx1 a x
    have e2 := le_mx2 a x
    refine ⟨⟨by simp only [List.foldl_cons]; omega, fun u hu => ?_⟩, ?_⟩
    · simp only [List.foldl_cons]
      rcases List.mem_cons.1 hu with rfl | hu
      · omega
      · exact h2 u hu
    · simp only [List.foldl_cons]
      rcases h3 with h3 | h3
      · rcases mx_or a x with e | e
        · exact .inl (by rw [h3, e])
        · exact .inr (by rw [h3, e]; simp)
      · exact .inr (by simp [h3])
theorem maxP_bd {js : List Int} (h : 0 < js.length) : (∀ u ∈ js, u ≤ maxP js) ∧ maxP js ∈ js := by
  cases js with
  | nil => simp at h
  | cons x l =>
    obtain ⟨⟨h1, h2⟩, h3⟩ := foldl_mx l x
    have e : maxP (x :: l) = l.foldl mx x := rfl
    rw [e]
    refine ⟨fun u hu => ?_, ?_⟩
    · rcases List.mem_cons.1 hu with rfl | hu
      · exact h1
      · exact h2 u hu
    · rcases h3 with h3 | h3
      · rw [h3]; simp
      · simp [h3]
/-! ### The texts -/
theorem max60 {m : CM} {b : Nat} {js : List Int} {e : Nat} (ho : Own m b (iv js) e) (hj : js.length = 61) {K : Value → CM → Prop} {Kp : List PanicEntry → CM → Prop} (hK : K (.int .i64 (maxP js)) m) : callw Try.prog 60 [.slice (some ⟨b, 0, none⟩) 61 62] m K Kp := by
  have hlen : ∀ m', clen Try.prog 27 (.slice (some ⟨b, 0, none⟩) 61 62) m' = some (.int .i64 61) := fun m' => by simp [clen, Try.underlying27, goInt]
  have hia : ∀ i : Nat, i < 61 → cia Try.prog 27 (.slice (some ⟨b, 0, none⟩) 61 62) (.int .i64 i) = some (.pointer (some ⟨b, i, none⟩)) := fun i hi => by
    have : (i : Int) < 61 := by omega
    simp [cia, Try.underlying27, sz3, this]
  have hld : ∀ (i : Nat) (n : Int), js[i]? = some n → cload Try.prog 3 (.pointer (some ⟨b, i, none⟩)) m = some (.int .i64 n) := fun i n h => ho.cel.z ag3 (iv_get h)
  apply c60
  unfold s60
  rw [hlen, pop_some, cb_lss, pop_some, show decide ((61 : Int) < 1) = false from rfl, cnd_false]
  unfold j60_0
  obtain ⟨n0, hn0⟩ : ∃ n, js[0]? = some n := ⟨js[0], List.getElem?_eq_getElem (by omega)⟩
  rw [show cia Try.prog 27 (.slice (some ⟨b, 0, none⟩) 61 62) (.int .i64 0) = some (.pointer (some ⟨b, 0, none⟩)) from hia 0 (by omega), pop_some, hld 0 n0 hn0, pop_some]
  have hd : js.headD 0 = n0 := by cases js with | nil => simp at hn0 | cons x l => simpa using hn0
  refine loopA_of (fun l0 ds m' => ds = [] ∧ m' = m ∧ ∃ (i : Nat) (acc : Int), i ≤ 61 ∧ (js.drop i).foldl mx acc = maxP js ∧ l0 = [.slice (some ⟨b, 0, none⟩) 61 62, .int .i64 acc, .int .i64 i])
    (fun l0 _ => match l0 with | [_, _, .int _ i] => (61 - i).toNat | _ => 0) ⟨rfl, rfl, 1, n0, by omega, by rw [maxP, hd], rfl⟩ ?_
  rintro X ρ ds m' ⟨rfl, rfl, i, acc, hi, hacc, hll⟩ hX
  simp only [List.map_cons, List.map_nil, List.cons.injEq, and_true] at hll
  obtain ⟨q0, q3, q4⟩ := hll
  simp only [q0, q3, q4, hlen, cb_lss, pop_some]
  by_cases hi2 : i < 61
  · obtain ⟨n, hn⟩ : ∃ n, js[i]? = some n := ⟨js[i], List.getElem?_eq_getElem (by omega)⟩
    rw [show decide ((i : Int) < (61 : Int)) = true by simpa using (by omega : (i : Int) < 61), cnd_true, hia i hi2, pop_some, hld i n hn, pop_some, cmm_max_is, pop_some, cb_add, pop_some, wrap_id (by omega) (by omega)]
    refine hX _ _ _ ⟨rfl, rfl, i + 1, mx acc n, by omega, ?_, by simp⟩ ?_
    · rw [← hacc, drop_cons hn]; rfl
    · simp only [List.map_cons, List.map_nil, q4]; omega
  · rw [show decide ((i : Int) < (61 : Int)) = false by simpa using (by omega : ¬ (i : Int) < 61), cnd_false, leave1, RK_ret]
    rw [List.drop_eq_nil_of_le (by omega)] at hacc
    simp only [List.foldl_nil] at hacc
    subst hacc
    exact hK
theorem most43 {m : CM} {js : List Int} (hj : js.length = 61) (hb : ∀ u ∈ js, 0 ≤ u ∧ u ≤ 1000000) {K : Value → CM → Prop} {Kp : List PanicEntry → CM → Prop} (hK : ∀ m', m.le m' → K (.int .i64 (maxP js - 1)) m') : callw Try.prog 43 [.agg ⟨iv js⟩] m K Kp := by
  apply c43
  unfold s43
  refine box_of fun t1 m1 hle1 hb1 ho1 => ?_
  replace ho1 : Own m1 t1 (iv js) 0 := ho1
  have hcs : cslice Try.prog 93 (.pointer (some ⟨t1, 0, none⟩)) none none none m1 = some (.slice (some ⟨t1, 0, none⟩) 61 62) := by
    have hu : Try.prog.underlying 93 = some (.array 61 3) := Try.underlying93
    simp [cslice, hu, sz3, bnd]
  have hm := hb _ (maxP_bd (js := js) (by omega)).2
  rw [hcs, pop_some]
  refine max60 ho1 hj ?_
  rw [cb_sub, pop_some, wrap_id (by omega) (by omega), leave1, RK_ret]
  exact hK _ hle1
theorem days48 {d : SeD} {m : CM} (hd : d.In m) (hn : 1 ≤ d.n) {K : Value → CM → Prop} {Kp : List PanicEntry → CM → Prop} (hK : ∀ m', m.le m' → K (.int .i64 (d.r 0).n) m') : callw Try.prog 48 [.agg ⟨d.cells⟩] m K Kp := by
  apply c48
  unfold s48
  refine box_of fun t1 m1 hle1 hb1 ho1 => ?_
  replace ho1 : Own m1 t1 d.cells 0 := ho1
  obtain ⟨b, o, hia, hcel, hlen⟩ := (hd.s.le hle1).at Try.underlying24 sz66 (i := 0) (by omega) (by omega)
  simp only [Int.toNat_zero] at hcel
  simp only [fz76_0, fz26_2, pop_some]
  rw [ho1.cel.z ag24 (j := 5) rfl, pop_some, hia]
  simp only [pop_some, fa66_2]
  rw [hcel.s ag64 (j := 2) rfl]
  simp only [pop_some]
  rw [(hd.c 0 (by omega)).s.len Try.underlying64, pop_some, leave1, RK_ret]
  exact hK _ hle1
def hotP (bend before hi : Int) : Int := match decide (hi < bend) with | true => 0 | false => before + 1
theorem hot41 {d : SeD} {m : CM} {before lo hi : Int} (hb : 0 ≤ before ∧ before ≤ 1000) {K : Value → CM → Prop} {Kp : List PanicEntry → CM → Prop} (hK : ∀ m', m.le m' → K (.int .i64 (hotP d.bend before hi)) m') : callw Try.prog 41 [.agg ⟨d.candle⟩, .int .i64 before, .agg ⟨[.int .i64 lo, .int .i64 hi]⟩] m K Kp := by
  apply c41
  unfold s41
  refine box_of fun t3 m1 hle1 hb1 ho1 => box_of fun t5 m2 hle2 hb2 ho2 => ?_
  replace ho1 : Own m1 t3 d.candle 0 := ho1
  simp only [toL] at ho2
  simp only [fz72_1, fz23_0, pop_some]
  rw [ldi ho2 (j := 1) rfl, pop_some, ldi (ho1.le hle2) (j := 0) rfl, pop_some, cb_lss, pop_some]
  unfold hotP at hK
  cases hd : decide (hi < d.bend) with
  | true => rw [cnd_true, leave1, RK_ret]; simp only [hd] at hK; exact hK _ (hle1.trans hle2)
  | false => rw [cnd_false, cb_add, pop_some, wrap_id (by omega) (by omega), leave1, RK_ret]; simp only [hd] at hK; exact hK _ (hle1.trans hle2)
/-! ### A state -/
structure StD where
  day : Int
  store : Int
  hot : Int
  js : List Int
abbrev StD.cells (x : StD) : List Value := iv (x.day :: x.store :: x.hot :: x.js)
structure StD.Ok (x : StD) : Prop where
  day : -1 ≤ x.day ∧ x.day ≤ 8
  hot : 0 ≤ x.hot ∧ x.hot ≤ x.day + 1
  js : x.js.length = 61
  b : ∀ u ∈ x.js, 0 ≤ u ∧ u ≤ x.day + 1
theorem hcb103 (a b : Int) : cbuild Try.prog 103 [(0, .int .i64 a), (1, .int .i64 b)] = some (.agg ⟨iv (a :: b :: 0 :: zer)⟩) := by kernel_rfl
theorem ze103' : zeroL Try.prog 103 = some (iv (0 :: 0 :: 0 :: zer)) := by kernel_rfl
theorem begin49 {m : CM} {a : Int} (ha : 0 ≤ a ∧ a ≤ 8) {K : Value → CM → Prop} {Kp : List PanicEntry → CM → Prop} (hK : ∀ m', m.le m' → K (.agg ⟨(StD.mk (a - 1) (-1) 0 zer).cells⟩) m') : callw Try.prog 49 [.int .i64 a] m K Kp := by
  apply c49
  unfold s49
  refine alw_of ze103' fun t2 m1 hle1 hb1 ho1 => ?_
  rw [cb_sub, pop_some, wrap_id (by omega) (by omega), hcb103, pop_some]
  refine store_own ho1 (by simpa [toL, zer_len] using sz103) (by simp [toL]) (iv_one ((a - 1) :: -1 :: 0 :: zer)) fun m2 hn2 hx2 ho2 => ?_
  simp only [toL] at ho2
  refine leave_rvs (.c (lda ho2 ag103 (by simpa [zer_len] using sz103)) .nil) ?_
  show RK K Kp (.ret (.agg ⟨_⟩)) m2
  rw [RK_ret]
  exact hK _ (le_of_put hle1 hb1 hn2 hx2)
theorem zer_bd : ∀ u ∈ zer, 0 ≤ u ∧ u ≤ 0 := fun u hu => by
  have := List.eq_of_mem_replicate hu
  omega
/-- A season's warmth in a store, on a day. -/
def SeD.afterP (d : SeD) (x : StD) (k : Nat) : StD := ⟨x.day + 1, k, hotP d.bend x.hot ((d.r k).hi (x.day + 1).toNat), nextP d.jump ((d.r k).lo (x.day + 1).toNat) ((d.r k).hi (x.day + 1).toNat) x.js⟩
def SeD.okP (d : SeD) (x : StD) (k : Nat) : Bool := decide ((d.afterP x k).hot < d.days) && decide (maxP (d.afterP x k).js - 1 < d.times)
theorem afterP_ok {d : SeD} {x : StD} {k : Nat} (hx : x.Ok) (h8 : x.day + 1 ≤ 8) : (d.afterP x k).Ok := by
  have h1 := hx.day; have h2 := hx.hot
  refine ⟨by simp only [SeD.afterP]; omega, ?_, nextP_len, fun u hu => ?_⟩
  · simp only [SeD.afterP, hotP]; split <;> omega
  · have := nextP_bd (B := x.day + 1) (fun u hu => (hx.b u hu).2) (by omega) u hu
    simp only [SeD.afterP]; omega
end Go.Proofs.Ytjkfleibnojjaaa.T
end

section
open Go Go.Proofs Go.Proofs.Ytjkfleibnojjaaa
set_option maxRecDepth 100000
namespace Go.Proofs.Ytjkfleibnojjaaa.T
theorem hcb76' (a b c d e : Int) (q : Option Addr) (l k : Nat) : cbuild Try.prog 76 [(0, .agg ⟨[.int .i64 a, .int .i64 b, .int .i64 c, .int .i64 d, .int .i64 e, .slice q l k]⟩)] = some (.agg ⟨[.int .i64 a, .int .i64 b, .int .i64 c, .int .i64 d, .int .i64 e, .slice q l k]⟩) := by kernel_rfl
theorem hcb76 {d : SeD} {m : CM} (hd : d.In m) : cbuild Try.prog 76 [(0, .agg ⟨d.cells⟩)] = some (.agg ⟨d.cells⟩) := by
  obtain ⟨q, l, k, hv⟩ := hd.s.isS
  simp only [SeD.cells, hv]; exact hcb76' ..
theorem SeD.one {d : SeD} {m : CM} (hd : d.In m) : d.cells.all Ytjkfleibnojjaaa.one = true := by
  have := hd.s.one
  simp only [SeD.cells, List.all_cons, this, List.all_nil, Bool.and_true]; rfl
theorem open39 {d : SeD} {m : CM} (hd : d.In m) {v : Value} {n : Nat} {x : Nat → Int} (hv : Sl 1 m v n (fun i => [.int .i64 (x i)])) (hn : n < 4611686018427387904) {K : Value → CM → Prop} {Kp : List PanicEntry → CM → Prop}
    (hK : ∀ m' (e : Int), m.le m' → (e = 0 → d.Ok ∧ (1 ≤ n ∧ n ≤ (d.r 0).n) ∧ ∀ j, j < n → 0 ≤ x j ∧ x j < d.n) → K (.tuple ⟨[.agg ⟨d.cells⟩, .int .i64 e]⟩) m') : callw Try.prog 39 [.agg ⟨d.cells⟩, v] m K Kp := by
  have hn0 := hd.n0
  apply c39
  unfold s39
  refine box_of fun t2 m1 hle1 hb1 ho1 => alw_of ze76 fun t4 m2 hle2 hb2 ho2 => ?_
  replace ho1 : Own m1 t2 d.cells 0 := ho1
  have h1n := hle1.1
  have hb1' := ho1.1
  replace ho1 := ho1.le hle2
  rw [lda ho1 ag26 sz26, pop_some, hcb76 hd, pop_some]
  refine store_own ho2 (by simp [toL, sz76]) (by simp [toL]) (SeD.one hd) fun m3 hn3 hx3 ho2 => ?_
  replace ho2 : Own m3 t4 d.cells 0 := ho2
  have hle3 := le_of_put (hle1.trans hle2) (by omega) hn3 hx3
  replace ho1 := ho1.sub hn3 (hx3 _ (by omega))
  have fin : ∀ {M : CM} {e : Int}, m.le M → Own M t4 d.cells 0 → (e = 0 → d.Ok ∧ (1 ≤ n ∧ n ≤ (d.r 0).n) ∧ ∀ j, j < n → 0 ≤ x j ∧ x j < d.n) →
      pop (cload Try.prog 76 (.pointer (some ⟨t4, 0, none⟩)) M) M (fun t m => sop (cstore Try.prog 76 (.pointer (some ⟨t4, 0, none⟩)) t m) (fun _ m => leaveV Try.prog [.c 76 (.pointer (some ⟨t4, 0, none⟩)), .v (.int .i64 e)] [] .ret m (RK K Kp))) := by
    intro M e hM ho he
    rw [lda ho ag76 sz76, pop_some]
    refine store_own ho (by simp [toL, sz76]) (by simp [toL]) (SeD.one hd) fun m5 hn5 hx5 ho5 => ?_
    replace ho5 : Own m5 t4 d.cells 0 := ho5
    refine leave_rvs (.c (lda ho5 ag76 sz76) (.v .nil)) ?_
    show RK K Kp (.ret (.tuple ⟨[_, _]⟩)) m5
    rw [RK_ret]
    exact hK _ _ (le_of_put hM (by omega) hn5 hx5) he
  rw [lda ho1 ag26 sz26, pop_some]
  refine check7 (hd.le hle3) fun p a e m4 hle4 h4 => ?_
  have hle := hle3.trans hle4
  replace ho2 := ho2.le hle4
  simp only [cext, List.getElem?_cons_zero, List.getElem?_cons_succ, pop_some, cb_neq]
  cases hb : (e != 0) with
  | true => rw [cnd_true]; exact fin hle ho2 fun h => by simp [h] at hb
  | false =>
  have hok := h4 (by simpa using hb)
  have hn3 := hok.n3
  rw [cnd_false, lda ho2 ag76 sz76, pop_some]
  refine days48 (hd.le hle) hn3.1 fun m5 hle5 => ?_
  replace hle := hle.trans hle5
  replace ho2 := ho2.le hle5
  rw [hv.len Try.underlying27, pop_some]
  refine out_1 fun b6 m6 hle6 h6 => ?_
  replace hle := hle.trans hle6
  replace ho2 := ho2.le hle6
  cases b6 with
  | true => rw [cnd_true]; exact fin hle ho2 fun h => absurd h (by decide)
  | false =>
  have h6' := h6 rfl
  simp only [cnd_false, fz76_0, fz26_2, pop_some]
  rw [ho2.cel.z ag24 (j := 5) rfl, pop_some, hd.s.len Try.underlying24, pop_some, cb_sub, pop_some, wrap_id (by omega) (by omega)]
  refine out31 _ v n x 0 _ _ _ (hv.le hle) hn fun m7 b7 hle7 h7 => ?_
  replace hle := hle.trans hle7
  replace ho2 := ho2.le hle7
  cases b7 with
  | true => rw [cnd_true]; exact fin hle ho2 fun h => absurd h (by decide)
  | false =>
    rw [cnd_false]
    exact fin hle ho2 fun _ => ⟨hok, by omega, fun j hj => by have := h7 rfl j hj; omega⟩
/-! ### after -/
theorem StD.one (x : StD) : x.cells.all Ytjkfleibnojjaaa.one = true := iv_one _
theorem sz103' {x : StD} (hx : x.js.length = 61) : szOf Try.prog 103 = some x.cells.length := by simpa [hx] using sz103
theorem splice_mid {a b c : List Value} : splice (a ++ b ++ c) a.length b = a ++ b ++ c := by simp [splice]
set_option maxHeartbeats 2000000 in
/-- after: the state a day later, in plain words. -/
theorem after50 {d : SeD} {m : CM} (hd : d.In m) (hok : d.Ok) {x : StD} (hx : x.Ok) (hday : x.day + 1 < (d.r 0).n) {k : Nat} (hk : k < d.n) {K : Value → CM → Prop} {Kp : List PanicEntry → CM → Prop}
    (hK : ∀ m', m.le m' → K (.tuple ⟨[.agg ⟨(d.afterP x k).cells⟩, .bool (d.okP x k)]⟩) m') : callw Try.prog 50 [.agg ⟨d.cells⟩, .agg ⟨x.cells⟩, .int .i64 k] m K Kp := by
  have hn0 := hd.n0
  have hr := hok.r k hk
  have hrd := hr.d
  have hrn := hr.n
  have hxd := hx.day
  have hxh := hx.hot
  have hjs := hx.js
  have hJ := hok.jump
  have hDay := hok.days
  have hTim := hok.times
  obtain ⟨day, hday'⟩ : ∃ n : Nat, x.day + 1 = (n : Int) := ⟨(x.day + 1).toNat, by omega⟩
  have hdl : day < (d.r 0).n := by omega
  have hw := hr.w day hdl
  obtain ⟨y, hy⟩ : ∃ y, y = d.afterP x k := ⟨_, rfl⟩
  have hyd : y = ⟨day, k, hotP d.bend x.hot ((d.r k).hi day), nextP d.jump ((d.r k).lo day) ((d.r k).hi day) x.js⟩ := by
    rw [hy, SeD.afterP, hday']; simp
  have hyok : y.Ok := by rw [hy]; exact afterP_ok hx (by omega)
  apply c50
  unfold s50
  refine box_of fun t3 m1 hle1 hb3 o3 => box_of fun t4 m2 hle2 hb4 o4 => alw_of ze103' fun t6 m3 hle3 hb6 o6 => ?_
  replace o3 : Own m1 t3 d.cells 0 := o3
  replace o4 : Own m2 t4 x.cells 0 := o4
  have a1 := hle1.1; have a2 := hle2.1; have a3 := hle3.1
  have c3 := o3.1; have c4 := o4.1; have c6 := o6.1
  have hle := (hle1.trans hle2).trans hle3
  replace o3 := (o3.le hle2).le hle3
  replace o4 := o4.le hle3
  simp only [fz103_0, fz103_1, fz103_2, fz103_3, fz76_0, fz26_0, fz26_2, fa23_1, fa23_3, fz23_1, fz23_3, pop_some, Nat.reduceAdd]
  rw [ldi o4 (j := 0) rfl, pop_some, cb_add, pop_some, wrap_id (by omega) (by omega), hday']
  refine o4.store (by simp [toL, sz3]) (by simp [toL]) rfl fun m4 hn4 hx4 o4 => ?_
  have e4 : splice x.cells 0 (toL (.int .i64 (day : Int))) = iv ((day : Int) :: x.store :: x.hot :: x.js) := by simp [splice, toL, iv]
  rw [e4] at o4
  replace hle := le_of_put hle (by omega) hn4 hx4
  replace o3 := o3.sub hn4 (hx4 _ (by omega))
  replace o6 := o6.sub hn4 (hx4 _ (by omega))
  rw [o3.cel.z ag24 (j := 5) rfl]
  simp only [pop_some]
  obtain ⟨b, o, hia, hcel, hlen⟩ := (hd.s.le hle).at Try.underlying24 sz66 (i := k) (by omega) (by omega)
  simp only [Int.toNat_natCast] at hcel
  rw [hia]
  simp only [pop_some, fa66_2]
  rw [hcel.s ag64 (j := 2) rfl]
  simp only [pop_some]
  rw [ldi o4 (j := 0) rfl]
  simp only [pop_some]
  obtain ⟨b2, o2, hia2, hcel2, hlen2⟩ := ((hd.c k hk).s.le hle).at Try.underlying64 sz72 (i := day) (by omega) (by omega)
  simp only [Int.toNat_natCast] at hcel2 hlen2
  rw [hia2]
  simp only [pop_some]
  rw [hcel2.elv ag72 sz72 hlen2 (by decide)]
  simp only [pop_some, elv]
  refine alw_of ze72 fun t8 m5 hle5 hb8 o8 => ⟨hle5, ?_⟩
  generalize hMV : memJ m4 _ (fun _ => true) m5.next = MV
  have hV : m5.le MV := hMV ▸ view1 hle5 (Nat.le_refl _) rfl
  clear hMV
  have c8 := o8.1
  have a5 := hle5.1; have aV := hV.1
  replace o8 := o8.le hV
  replace hle5 := hle5.trans hV
  replace o3 := o3.le hle5
  replace o4 := o4.le hle5
  replace o6 := o6.le hle5
  replace hle := hle.trans hle5
  refine store_own o8 (by simp [toL, sz72]) (by simp [toL]) rfl fun m6 hn6 hx6 o8 => ?_
  simp only [toL] at o8
  replace hle := le_of_put hle (by omega) hn6 hx6
  replace o3 := o3.sub hn6 (hx6 _ (by omega))
  replace o4 := o4.sub hn6 (hx6 _ (by omega))
  replace o6 := o6.sub hn6 (hx6 _ (by omega))
  have lc : ∀ {M : CM}, Own M t3 d.cells 0 → cload Try.prog 23 (.pointer (some ⟨t3, 0, none⟩)) M = some (.agg ⟨d.candle⟩) := fun h => h.cel.za ag23 sz23 (j := 0) (by simp)
  rw [lc o3]
  simp only [pop_some]
  rw [ldi o4 (j := 2) rfl]
  simp only [pop_some]
  rw [lda o8 ag72 sz72]
  simp only [pop_some]
  refine hot41 (d := d) ⟨by omega, by omega⟩ fun m7 hle7 => ⟨hle7, ?_⟩
  have h7n := hle7.1
  have lj : ∀ {M : CM}, Own M t4 (iv ((day : Int) :: x.store :: x.hot :: x.js)) 0 → cload Try.prog 93 (.pointer (some ⟨t4, 3, none⟩)) M = some (.agg ⟨iv x.js⟩) := fun h => by
    have := h.cel.za (P := Try.prog) (t := 93) ag93 sz93 (j := 3) (by simp [hjs])
    rw [this]
    congr 3
    simp [iv, hjs]
    rw [List.take_of_length_le (by simp [hjs])]
  rw [lj (Own.of o4 (M := memJ m6 _ (fun i => Nat.testBit 256 i) m7.next) rfl h7n)]
  simp only [pop_some]
  rw [lc (Own.of o3 (M := memJ m6 _ (fun i => Nat.testBit 3072 i) m7.next) rfl h7n)]
  simp only [pop_some]
  rw [lda (Own.of o8 (M := memJ m6 _ (fun i => Nat.testBit 0 i) m7.next) rfl h7n) ag72 sz72]
  simp only [pop_some]
  refine next42 (J := d.jump) rfl rfl rfl hjs (fun u hu => by have := hx.b u hu; omega) hw.1.1 hw.2.1.2 hw.2.2 fun m8 hle8 hn8 => ⟨hle8, ?_⟩
  have hle78 : m7.le m8 := (view1 hle7 (Nat.le_refl _) rfl).trans hle8
  generalize hMW : memJ m6 _ (fun _ => true) m8.next = MW
  have hW : m8.le MW := hMW ▸ view2 hle7 hle78 (Nat.le_refl _) rfl
  clear hMW
  have hleW : m6.le MW := (hle7.trans hle78).trans hW
  replace hle := hle.trans hleW
  replace o3 := o3.le hleW
  replace o4 := o4.le hleW
  replace o6 := o6.le hleW
  have hWn := hleW.1
  have n6 : m6.next = MV.next := hn6
  refine o4.store (by simp [toL, sz3]) (by simp [toL]) rfl fun m9 hn9 hx9 o4 => ?_
  have e9 : splice (iv ((day : Int) :: x.store :: x.hot :: x.js)) 1 (toL (.int .i64 (k : Int))) = iv ((day : Int) :: (k : Int) :: x.hot :: x.js) := by simp [splice, toL, iv]
  rw [e9] at o4
  replace hle := le_of_put hle (by omega) hn9 hx9
  replace o3 := o3.sub hn9 (hx9 _ (by omega))
  replace o6 := o6.sub hn9 (hx9 _ (by omega))
  refine o4.store (by simp [toL, sz3]) (by simp [toL]) rfl fun mA hnA hxA o4 => ?_
  have eA : splice (iv ((day : Int) :: (k : Int) :: x.hot :: x.js)) 2 (toL (.int .i64 (hotP d.bend x.hot ((d.r k).hi day)))) = iv ((day : Int) :: (k : Int) :: hotP d.bend x.hot ((d.r k).hi day) :: x.js) := by simp [splice, toL, iv]
  rw [eA] at o4
  replace hle := le_of_put hle (by omega) hnA hxA
  replace o3 := o3.sub hnA (hxA _ (by omega))
  replace o6 := o6.sub hnA (hxA _ (by omega))
  have hjl : (nextP d.jump ((d.r k).lo day) ((d.r k).hi day) x.js).length = 61 := nextP_len
  refine o4.store (by simpa [toL, hjl] using sz93) (by simp [toL, hjl, hjs]) (iv_one _) fun mB hnB hxB o4 => ?_
  have eB : splice (iv ((day : Int) :: (k : Int) :: hotP d.bend x.hot ((d.r k).hi day) :: x.js)) 3 (toL (.agg ⟨iv (nextP d.jump ((d.r k).lo day) ((d.r k).hi day) x.js)⟩)) = y.cells := by
    rw [hyd]
    simp [splice, toL, iv, hjl, hjs]
  rw [eB] at o4
  replace hle := le_of_put hle (by omega) hnB hxB
  replace o3 := o3.sub hnB (hxB _ (by omega))
  replace o6 := o6.sub hnB (hxB _ (by omega))
  have hyl : y.js.length = 61 := hyok.js
  have hb3 : t3 < mB.next := o3.1
  have hb4 : t4 < mB.next := o4.1
  have hb6 : t6 < mB.next := o6.1
  have e46 : t4 ≠ t6 := by omega
  have e36 : t3 ≠ t6 := by omega
  have m0t6 : m.next ≤ t6 := by omega
  clear hx4 hx6 hx9 hxA hxB hn4 hn6 hn9 hnA hnB hV hW hleW hle7 hle8 hle78 o8 c3 c4 c6 c8 a1 a2 a3 a5 aV h7n hWn n6 hle5 hle1 hle2 hle3 eB eA e9 e4 lj hcel hcel2 hlen hlen2 hia hia2 hn8
  rw [lda o4 ag103 (sz103' hyl)]
  simp only [pop_some]
  rw [ldi o4 (j := 2) (n := y.hot) (by simp [StD.cells])]
  simp only [pop_some]
  rw [ldi o3 (j := 1) (n := d.days) rfl]
  simp only [pop_some, cb_lss]
  have fin : ∀ {M : CM} {b : Bool}, b = d.okP x k → m.le M → Own M t6 y.cells 0 → leaveV Try.prog [.c 103 (.pointer (some ⟨t6, 0, none⟩)), .v (.bool b)] [] .ret M (RK K Kp) := by
    intro M b hb hM ho
    refine leave_rvs (.c (lda ho ag103 (sz103' hyl)) (.v .nil)) ?_
    show RK K Kp (.ret (.tuple ⟨[_, _]⟩)) M
    rw [RK_ret, hb, hy]
    exact hK _ hM
  have hsz : szOf Try.prog 103 = some (toL (.agg ⟨y.cells⟩)).length := sz103' hyl
  have hl0 : (iv (0 :: 0 :: 0 :: zer)).length = (toL (.agg ⟨y.cells⟩)).length := by simp [toL, zer_len, hyl]
  have hcell : splice (iv (0 :: 0 :: 0 :: zer)) 0 (toL (.agg ⟨y.cells⟩)) = y.cells := splice_all hl0.symm
  cases hh : decide (y.hot < d.days) with
  | false =>
    simp only [gb_bool, Bool.false_beq, Bool.not_true, dgs_false, dgo_false, cpick_bool, Bool.false_eq_true, if_false, pop_some]
    refine lstw_own (o6.le (view0 (Nat.le_refl _) rfl)).2 hsz (by rw [hl0]; omega) (StD.one y) ⟨⟨hb6, trivial, trivial⟩, (by simp), ?_⟩
    generalize hML : memL mB _ [(18, t6, _)] (fun _ => true) mB.next = ML
    rw [memL1 rfl (getJ0 o6.2 rfl)] at hML
    have hMLx : ∀ z, z ≠ t6 → ML.get z = mB.get z := fun z hz => by subst hML; rw [CM.get_put, if_neg hz]; rfl
    have hMLn : ML.next = mB.next := by subst hML; rfl
    have o6' : Own ML t6 y.cells 0 := ⟨by rw [hMLn]; exact hb6, by subst hML; rw [CM.get_put, if_pos rfl, hcell]⟩
    refine fin ?_ (le_of_put hle m0t6 hMLn hMLx) o6'
    rw [SeD.okP, ← hy, hh]; rfl
  | true =>
    simp only [gb_bool, beq_self_eq_true, dgs_true, dgo_true, pop_some]
    have lj : cload Try.prog 93 (.pointer (some ⟨t4, 3, none⟩)) mB = some (.agg ⟨iv y.js⟩) := by
      have := o4.cel.za (P := Try.prog) (t := 93) ag93 sz93 (j := 3) (by simp [hyl])
      rw [this]
      congr 3
      simp [iv]
      rw [List.take_of_length_le (by simp [hyl])]
    rw [lj]
    simp only [pop_some]
    refine most43 hyl (fun u hu => by have := hyok.b u hu; have := hyok.day; omega) fun mC hleC => ⟨hleC, ?_⟩
    have hV1 := fun (E : List Ent) (sel : Nat → Bool) h => view1 (m := mB) (m1 := mC) (E := E) (sel := sel) (nx := mC.next) hleC (Nat.le_refl _) h
    simp only [fz26_0, fz76_0, fz23_3, pop_some]
    rw [ldi (Own.of o3 (M := memJ mB _ (fun i => Nat.testBit 29182 i) mC.next) rfl hleC.1) (j := 3) (n := d.times) rfl]
    simp only [pop_some, cb_lss, cpick_bool, if_true]
    refine lstw_own ((o6.le hleC).le (hV1 _ _ rfl)).2 hsz (by rw [hl0]; omega) (StD.one y) ⟨⟨hb6, e36, trivial⟩, (by simp), ?_⟩
    generalize hML : memL mB _ [(18, t6, _)] (fun _ => true) mC.next = ML
    rw [memL1 rfl ((o6.le hleC).le (hV1 _ _ rfl)).2] at hML
    have hMLn : ML.next = mC.next := by subst hML; rfl
    have hMLe : m.le ML := ⟨by have := hle.1; have := hleC.1; omega, fun z hz => by
      subst hML
      rw [CM.get_put, if_neg (by omega), (hleC.trans (hV1 _ _ rfl)).2 z (by have := hle.1; omega)]
      exact hle.2 z hz⟩
    have o6' : Own ML t6 y.cells 0 := ⟨by rw [hMLn]; have := hleC.1; omega, by subst hML; rw [CM.get_put, if_pos rfl, hcell]⟩
    refine fin ?_ hMLe o6'
    rw [SeD.okP, ← hy, hh]; rfl
end Go.Proofs.Ytjkfleibnojjaaa.T
end

section
open Go Go.Proofs Go.Proofs.Ytjkfleibnojjaaa
set_option maxRecDepth 100000
namespace Go.Proofs.Ytjkfleibnojjaaa.T
/-- A way. -/
structure WayD where
  v : Value
  n : Nat
  x : Nat → Int
structure WayD.In (w : WayD) (m : CM) : Prop where
  s : Sl 1 m w.v w.n (fun i => [.int .i64 (w.x i)])
  n0 : w.n < 4611686018427387904
theorem WayD.In.le {w : WayD} {m m' : CM} (h : w.In m) (k : m.le m') : w.In m' := ⟨h.s.le k, h.n0⟩
structure WayD.Ok (w : WayD) (d : SeD) : Prop where
  n : 1 ≤ w.n ∧ w.n ≤ (d.r 0).n
  x : ∀ j, j < w.n → 0 ≤ w.x j ∧ w.x j < d.n
def WayD.lo (w : WayD) (d : SeD) (i : Nat) : Int := (d.r (w.x i).toNat).lo i
def WayD.hi (w : WayD) (d : SeD) (i : Nat) : Int := (d.r (w.x i).toNat).hi i
theorem WayD.bd {w : WayD} {d : SeD} (hw : w.Ok d) (hd : d.Ok) {i : Nat} (hi : i < w.n) : (0 ≤ w.lo d i ∧ w.lo d i ≤ 60) ∧ (0 ≤ w.hi d i ∧ w.hi d i ≤ 60) ∧ w.lo d i ≤ w.hi d i := by
  have h1 := hw.x i hi
  have h2 := hd.r (w.x i).toNat (by omega)
  have h3 := hw.n
  exact h2.w i (by omega)
theorem along40 {d : SeD} {w : WayD} {m : CM} (hd : d.In m) (hw : w.In m) {K : Value → CM → Prop} {Kp : List PanicEntry → CM → Prop} (hK : ∀ m' W S, m.le m' → m.next ≤ W → m.next ≤ S → Own m' W [w.v] 0 → Own m' S d.cells 0 → K (.func (.func 59) ⟨[]⟩ ⟨[.pointer (some ⟨W, 0, none⟩), .pointer (some ⟨S, 0, none⟩)]⟩) m') :
    callw Try.prog 40 [.agg ⟨d.cells⟩, w.v] m K Kp := by
  apply c40
  unfold s40
  refine box_of fun S m1 hle1 hb1 ho1 => box_of fun W m2 hle2 hb2 ho2 => ?_
  replace ho1 : Own m1 S d.cells 0 := ho1
  rw [toL_one hw.s.one] at ho2
  rw [leave1, RK_ret]
  exact hK _ _ _ (hle1.trans hle2) (Nat.le_trans hle1.1 hb2) hb1 ho2 (ho1.le hle2)
/-- The days of a way, one after the other: I i holds before the i-th, J when it is left. -/
theorem iter59 {d : SeD} {w : WayD} {W S lp : Nat} {I : Nat → CM → Prop} {J : CM → Prop} (hok : d.Ok) (hwk : w.Ok d) (hL : ∀ i m, I i m → d.In m ∧ w.In m ∧ Own m W [w.v] 0 ∧ Own m S d.cells 0)
    (hy : ∀ (i : Nat) (m : CM) (K : Value → CM → Prop), I i m → i < w.n → (∀ m', I (i + 1) m' → K (.bool true) m') → (∀ m', J m' → K (.bool false) m') → yieldw Try.prog lp [.int .i64 i, .agg ⟨[.int .i64 (w.lo d i), .int .i64 (w.hi d i)]⟩] m K)
    {m : CM} (h : I 0 m) {K : Value → CM → Prop} {Kp : List PanicEntry → CM → Prop} (hK : ∀ v m', I w.n m' ∨ J m' → K v m') : callw Try.prog 59 [yv lp, .pointer (some ⟨W, 0, none⟩), .pointer (some ⟨S, 0, none⟩)] m K Kp := by
  obtain ⟨hd, hw, oW, oS⟩ := hL _ _ h
  have hwn := hwk.n
  have hn3 := hok.n3
  have hr0 := (hok.r 0 (by omega)).d
  apply c59
  unfold s59
  rw [oW.cel.z ag27 (j := 0) rfl, pop_some, hw.s.len Try.underlying27, pop_some]
  refine loopA_of (fun l0 ds m' => ds = [] ∧ ∃ i : Nat, i ≤ w.n ∧ I i m' ∧ l0 = [yv lp, .pointer (some ⟨S, 0, none⟩), w.v, .int .i64 w.n, .int .i64 i])
    (fun l0 _ => match l0 with | [_, _, _, _, .int _ i] => w.n - i.toNat | _ => 0) ⟨rfl, 0, by omega, h, rfl⟩ ?_
  clear hd hw oW oS
  rintro X ρ ds m' ⟨rfl, i, hi, hIm, hll⟩ hX
  simp only [List.map_cons, List.map_nil, List.cons.injEq, and_true] at hll
  obtain ⟨q0, q2, q6, q7, q8⟩ := hll
  simp only [q0, q2, q6, q7, q8, cb_lss, pop_some]
  obtain ⟨hd, hw, oW, oS⟩ := hL _ _ hIm
  by_cases hci : i < w.n
  · have hc' : decide ((i : Int) < (w.n : Int)) = true := by simpa using hci
    have hx := hwk.x i hci
    obtain ⟨b, o, hia, hcel, hlen⟩ := hw.s.at Try.underlying27 sz3 (i := i) (by omega) (by omega)
    obtain ⟨b2, o2, hia2, hcel2, hlen2⟩ := hd.s.at Try.underlying24 sz66 (i := w.x i) hx.1 hx.2
    have hrr := hok.r (w.x i).toNat (by omega)
    have hrn := hrr.n
    obtain ⟨b3, o3, hia3, hcel3, hlen3⟩ := (hd.c (w.x i).toNat (by omega)).s.at Try.underlying64 sz72 (i := i) (by omega) (by omega)
    simp only [Int.toNat_natCast] at hcel hlen hcel3 hlen3
    rw [hc', cnd_true, hia, pop_some, hcel.s0 ag3 rfl, pop_some]
    simp only [fz76_0, fz26_2, pop_some]
    rw [oS.cel.z ag24 (j := 5) rfl, pop_some, hia2]
    simp only [pop_some, fa66_2]
    rw [hcel2.s ag64 (j := 2) rfl]
    simp only [pop_some]
    rw [hia3]
    simp only [pop_some]
    rw [hcel3.elv ag72 sz72 hlen3 (by decide)]
    simp only [pop_some]
    show yieldw Try.prog lp [.int .i64 i, .agg ⟨[.int .i64 (w.lo d i), .int .i64 (w.hi d i)]⟩] m' _
    refine hy i m' _ hIm hci (fun m3 h3 => ?_) (fun m3 h3 => ?_)
    · rw [cun_not, pop_some, show (!true) = false from rfl, cnd_false, cb_add, pop_some, wrap_id (by omega) (by omega)]
      refine hX _ _ _ ⟨rfl, i + 1, by omega, h3, by simp⟩ ?_
      simp only [List.map_cons, List.map_nil, q8]; omega
    · rw [cun_not, pop_some, show (!false) = true from rfl, cnd_true, leave0, RK_ret]
      exact hK _ _ (.inr h3)
  · have hc' : decide ((i : Int) < (w.n : Int)) = false := by simpa using hci
    rw [hc', cnd_false, leave0, RK_ret]
    have : i = w.n := by omega
    subst this
    exact hK _ _ (.inl hIm)
theorem yield15 {A : CA} {l D : Nat} {x0 x1 : Value} {m : CM} (hn : A.n = Try.f15.ntmps) (hl : m.get l = some (.loop (rfRec A #[24, 25] as15_0 bd15_0 D))) {RY : Value → CM → Prop} (h : r15_0 RY l A x0 x1 m) : yieldw Try.prog l [x0, x1] m RY :=
  yield_text mixed (ann := ann15) hl rfl (by rw [hn]; kernel_rfl) (by rw [hn]; kernel_rfl) (by rw [hn]; kernel_rfl) (by rw [er15_0]; exact h)
/-- Numbers of jumps, that can stand after so many days. -/
def JsB (js : List Int) (B : Int) : Prop := js.length = 61 ∧ ∀ u ∈ js, 0 ≤ u ∧ u ≤ B
theorem JsB.next {js : List Int} {B J lo hi : Int} (h : JsB js B) (h0 : 0 ≤ B) : JsB (nextP J lo hi js) (B + 1) := ⟨nextP_len, nextP_bd (fun u hu => (h.2 u hu).2) h0⟩
theorem JsB.zer : JsB Ytjkfleibnojjaaa.T.zer 0 := ⟨zer_len, zer_bd⟩
set_option maxHeartbeats 2000000 in
theorem range15 {d : SeD} {w : WayD} {m0 m8 : CM} {A : CA} {t7 t4 t8 t9 W S : Nat} (hn : A.n = Try.f15.ntmps)
    (h7 : A.ρ 7 = .pointer (some ⟨t7, 0, none⟩)) (h4 : A.ρ 4 = .pointer (some ⟨t4, 0, none⟩)) (h8 : A.ρ 8 = .pointer (some ⟨t8, 0, none⟩)) (h9 : A.ρ 9 = .pointer (some ⟨t9, 0, none⟩))
    (hok : d.Ok) (hwk : w.Ok d) (hle : m0.le m8) (hd : d.In m0) (hw : w.In m0)
    (o7 : Own m8 t7 d.cells 0) (oW : Own m8 W [w.v] 0) (oS : Own m8 S d.cells 0) (o4 : Own m8 t4 [.int .i64 0] 0) (o8 : Own m8 t8 (iv zer) 0) (o9 : Own m8 t9 [.int .i64 0] 0)
    (g4 : m0.next ≤ t4) (g8 : m0.next ≤ t8) (g9 : m0.next ≤ t9) (hne : t4 ≠ t8 ∧ t4 ≠ t9 ∧ t8 ≠ t9) (hne2 : t7 ≠ t4 ∧ t7 ≠ t8 ∧ t7 ≠ t9 ∧ W ≠ t4 ∧ W ≠ t8 ∧ W ≠ t9 ∧ S ≠ t4 ∧ S ≠ t8 ∧ S ≠ t9)
    {KE : Nat → Exit → CM → Prop} {KP : Nat → List PanicEntry → CM → Prop} (hN : ∀ (M : CM) (a : Int) (js : List Int), M.get m8.next = some .dfr → m8.next + 2 ≤ M.next → m0.le M → t4 < m8.next → Own M t4 [.int .i64 a] 0 → Own M t8 (iv js) 0 → JsB js w.n → KE m8.next .normal M) :
    rfO Try.prog (.func (.func 59) ⟨[]⟩ ⟨[.pointer (some ⟨W, 0, none⟩), .pointer (some ⟨S, 0, none⟩)]⟩) m8 (fun D => rfRec A #[24, 25] as15_0 bd15_0 D) KE KP := by
  have hwn := hwk.n
  have hn3 := hok.n3
  have hr0 := (hok.r 0 (by omega)).d
  obtain ⟨n48, n49, n89⟩ := hne
  obtain ⟨k1, k2, k3, k4, k5, k6, k7, k8, k9⟩ := hne2
  have c4 := o4.1; have c8 := o8.1; have c9 := o9.1; have c7 := o7.1
  refine ⟨59, [], [.pointer (some ⟨W, 0, none⟩), .pointer (some ⟨S, 0, none⟩)], rfl, ?_⟩
  show callw Try.prog 59 [yv (m8.next + 1), .pointer (some ⟨W, 0, none⟩), .pointer (some ⟨S, 0, none⟩)] _ _ _
  let REC : CL := rfRec A #[24, 25] as15_0 bd15_0 m8.next
  let Wt : Nat → Prop := fun x => x = t4 ∨ x = t8 ∨ x = t9
  have hWt : ∀ x, Wt x → m0.next ≤ x := fun x hx => by rcases hx with rfl | rfl | rfl <;> assumption
  have nW : ¬ Wt W := fun h => by rcases h with h | h | h <;> omega
  have nS : ¬ Wt S := fun h => by rcases h with h | h | h <;> omega
  have n7 : ¬ Wt t7 := fun h => by rcases h with h | h | h <;> omega
  refine iter59 (d := d) (w := w) (I := fun i M => LS m8 Wt REC M ∧ ∃ (a now : Int) (js : List Int), Own M t4 [.int .i64 a] 0 ∧ Own M t8 (iv js) 0 ∧ Own M t9 [.int .i64 now] 0 ∧ JsB js i ∧ 0 ≤ now ∧ now ≤ i) (J := fun _ => False) hok hwk ?_ ?_ ?_ ?_
  · rintro i M ⟨g, _⟩
    have hM := g.since hle hWt
    exact ⟨hd.le hM, hw.le hM, g.own oW nW, g.own oS nS⟩
  · rintro i M K' ⟨g, a, now, js, p4, p8, p9, hj, hn0, hn1⟩ hi hT _
    have hbd := WayD.bd hwk hok hi
    have gn := g.nx
    refine yield15 hn g.l ?_
    unfold r15_0
    refine alw_of ze72 fun t11 m1 hle1 hb11 o11 => store_own o11 (by simp [toL, sz72]) (by simp [toL]) rfl fun m2 hn2 hx2 o11 => ?_
    simp only [toL] at o11
    have hle2 : M.le m2 := le_of_put hle1 hb11 hn2 hx2
    have c11 := o11.1
    replace g := g.le hle2
    replace p4 := p4.le hle2
    replace p8 := p8.le hle2
    replace p9 := p9.le hle2
    refine ⟨REC, g.l, rfl, ?_⟩
    have gB := g.put (R' := { REC with state := .busy })
    have p4' := Own.put_ne (y := .loop { REC with state := .busy }) p4 (show t4 ≠ m8.next + 1 by omega)
    have p8' := Own.put_ne (y := .loop { REC with state := .busy }) p8 (show t8 ≠ m8.next + 1 by omega)
    have p9' := Own.put_ne (y := .loop { REC with state := .busy }) p9 (show t9 ≠ m8.next + 1 by omega)
    have p11 := Own.put_ne (y := .loop { REC with state := .busy }) o11 (show t11 ≠ m8.next + 1 by omega)
    clear p4 p8 p9 o11
    generalize m2.put (m8.next + 1) (.loop { REC with state := .busy }) = B at *
    have p7 := gB.own o7 n7
    have lc : ∀ {M : CM}, Own M t7 d.cells 0 → cload Try.prog 23 (.pointer (some ⟨t7, 0, none⟩)) M = some (.agg ⟨d.candle⟩) := fun h => h.cel.za ag23 sz23 (j := 0) (by simp)
    simp only [h7, h4, h8, h9, fz76_0, fz26_0, pop_some]
    rw [lc p7]
    simp only [pop_some]
    rw [ldi p9' (j := 0) rfl]
    simp only [pop_some]
    rw [lda p11 ag72 sz72]
    simp only [pop_some]
    refine hot41 (d := d) ⟨hn0, by omega⟩ fun m3 hle3 => ⟨hle3, ?_⟩
    have h3n := hle3.1
    rw [lda (Own.of p8' (M := memJ B _ (fun i => Nat.testBit 0 i) m3.next) rfl h3n) ag93 (by simpa [hj.1] using sz93)]
    simp only [pop_some]
    rw [lc (Own.of p7 (M := memJ B _ (fun i => Nat.testBit 384 i) m3.next) rfl h3n)]
    simp only [pop_some]
    rw [lda (Own.of p11 (M := memJ B _ (fun i => Nat.testBit 0 i) m3.next) rfl h3n) ag72 sz72]
    simp only [pop_some]
    generalize hMV : memJ B _ (fun _ => true) m3.next = MV
    have hV : m3.le MV := hMV ▸ view1 hle3 (Nat.le_refl _) rfl
    clear hMV
    refine next42 (J := d.jump) rfl rfl rfl hj.1 (fun u hu => by have := hj.2 u hu; omega) hbd.1.1 hbd.2.1.2 hbd.2.2 fun m4 hle4 _ => ?_
    have hB4 : B.le m4 := (hle3.trans hV).trans hle4
    have g4' := gB.le hB4
    replace p4' := p4'.le hB4
    replace p8' := p8'.le hB4
    replace p9' := p9'.le hB4
    refine store_own p9' (by simp [toL, sz3]) (by simp [toL]) rfl fun m5 hn5 hx5 p9' => ?_
    simp only [toL] at p9'
    refine store_own (p8'.sub hn5 (hx5 _ n89)) (by simpa [toL, nextP_len] using sz93) (by simp [toL, nextP_len, hj.1]) (iv_one _) fun m6 hn6 hx6 p8' => ?_
    simp only [toL] at p8'
    replace p9' := p9'.sub hn6 (hx6 _ n89.symm)
    replace p4' := (p4'.sub hn5 (hx5 _ n49)).sub hn6 (hx6 _ n48)
    have g6 := (g4'.wr hn5 hx5 (.inl ⟨c9, .inr (.inr rfl)⟩)).wr hn6 hx6 (.inl ⟨c8, .inr (.inl rfl)⟩)
    rw [ldi p4' (j := 0) rfl, pop_some, ldi p9' (j := 0) rfl, pop_some, cmm_max_is, pop_some]
    refine store_own p4' (by simp [toL, sz3]) (by simp [toL]) rfl fun m7 hn7 hx7 p4' => ?_
    simp only [toL] at p4'
    have g7 := g6.wr hn7 hx7 (.inl ⟨c4, .inl rfl⟩)
    replace p8' := p8'.sub hn7 (hx7 _ n48.symm)
    replace p9' := p9'.sub hn7 (hx7 _ n49.symm)
    refine ⟨none, _, rfl, g7.l, hT _ ⟨g7.put, _, _, _, Own.put_ne p4' (by omega), Own.put_ne p8' (by omega), Own.put_ne p9' (by omega), by have := hj.next (J := d.jump) (lo := w.lo d i) (hi := w.hi d i) (by omega); simpa using this, ?_, ?_⟩⟩
    · unfold hotP; split <;> omega
    · unfold hotP; push_cast; split <;> omega
  · exact ⟨LS.init, 0, 0, zer, o4.alloc2, o8.alloc2, o9.alloc2, JsB.zer, by omega, by omega⟩
  · rintro v0 M (⟨g, a, now, js, p4, p8, p9, hj, _⟩ | hf)
    · have gP := g.put (R' := { REC with state := .exhausted })
      have gn := g.nx
      refine ⟨REC, g.l, (by intro h; cases h), .normal, rfl, ?_⟩
      exact hN _ a js gP.d gP.nx (gP.since hle hWt) c4 (Own.put_ne p4 (by omega)) (Own.put_ne p8 (by omega)) hj
    · exact hf.elim
theorem Risks15 {d : SeD} {w : WayD} {m : CM} (hd : d.In m) (hw : w.In m) {K : Value → CM → Prop} {Kp : List PanicEntry → CM → Prop} (hK : ∀ m' (a b e : Int), m.le m' → K (.tuple ⟨[.int .i64 a, .int .i64 b, .int .i64 e]⟩) m') : callw Try.prog 15 [.agg ⟨d.cells⟩, w.v] m K Kp := by
  apply c15
  unfold s15
  refine box_of fun t2 m1 hle1 hb2 o2 => alw_of ze3 fun t4 m2 hle2 hb4 o4 => ?_
  replace o2 : Own m1 t2 d.cells 0 := o2
  have a1 := hle1.1; have a2 := hle2.1
  have c2 := o2.1; have c4 := o4.1
  have hle := hle1.trans hle2
  rw [lda (o2.le hle2) ag26 sz26, pop_some]
  refine open39 (hd.le hle) (hw.s.le hle) hw.n0 fun m3 e hle3 h3 => ?_
  have a3 := hle3.1
  replace hle := hle.trans hle3
  replace o4 := o4.le hle3
  simp only [cext, List.getElem?_cons_zero, List.getElem?_cons_succ, pop_some]
  refine alw_of ze76 fun t7 m4 hle4 hb7 o7 => store_own o7 (by simp [toL, sz76]) (by simp [toL]) (SeD.one (hd.le (hle.trans hle4))) fun m5 hn5 hx5 o7 => ?_
  replace o7 : Own m5 t7 d.cells 0 := o7
  have a4 := hle4.1
  have c7 := o7.1
  have hle5 := le_of_put hle4 hb7 hn5 hx5
  replace hle := hle.trans hle5
  replace o4 := o4.le hle5
  rw [cb_neq, pop_some]
  cases hb : (e != 0) with
  | true =>
    rw [cnd_true]
    refine store_own o4 (by simp [toL, sz3]) (by simp [toL]) rfl fun m6 hn6 hx6 o4 => ?_
    simp only [toL] at o4
    refine leave_rvs (.c (ldi o4 (j := 0) rfl) (.v (.v .nil))) ?_
    show RK K Kp (.ret (.tuple ⟨[_, _, _]⟩)) m6
    rw [RK_ret]
    exact hK _ _ _ _ (le_of_put hle (by omega) hn6 hx6)
  | false =>
  obtain ⟨hok, hwn, hwx⟩ := h3 (by simpa using hb)
  have hwk : w.Ok d := ⟨hwn, hwx⟩
  have hr0 := (hok.r 0 (by have := hok.n3; omega)).d
  rw [cnd_false]
  refine alw_of ze93' fun t8 m6 hle6 hb8 o8 => alw_of ze3 fun t9 m7 hle7 hb9 o9 => store_own o9 (by simp [toL, sz3]) (by simp [toL]) rfl fun m8 hn8 hx8 o9 => ?_
  simp only [toL] at o9
  have a6 := hle6.1; have a7 := hle7.1
  have c8 := o8.1; have c9 := o9.1
  have hle8 : m6.le m8 := le_of_put hle7 hb9 hn8 hx8
  replace o8 := o8.le hle8
  replace o7 := o7.le (hle6.trans hle8)
  replace o4 := o4.le (hle6.trans hle8)
  replace hle := hle.trans (hle6.trans hle8)
  rw [lda o7 ag76 sz76, pop_some]
  refine along40 (hd.le hle) (hw.le hle) fun m9 W S hle9 hW hS oW oS => ?_
  have a9 := hle9.1
  refine range15 (d := d) (w := w) (m0 := m) rfl rfl rfl rfl rfl hok hwk (hle.trans hle9) hd hw (o7.le hle9) oW oS (o4.le hle9) (o8.le hle9) (o9.le hle9) (by omega) (by omega) (by omega) ⟨by omega, by omega, by omega⟩ ⟨by omega, by omega, by omega, by omega, by omega, by omega, by omega, by omega, by omega⟩ fun M a js hdf hnx hM h4l p4 p8 hj => ?_
  show j15_0 (RK K Kp) (.pointer (some ⟨t4, 0, none⟩)) (.pointer (some ⟨t8, 0, none⟩)) [mark m9.next] M
  unfold j15_0
  rw [ldi p4 (j := 0) rfl, pop_some, lda p8 ag93 (by simpa [hj.1] using sz93), pop_some]
  refine most43 hj.1 (fun u hu => by have := hj.2 u hu; omega) fun mA hleA => ⟨hleA, ?_⟩
  generalize hMV : memJ M _ (fun _ => true) mA.next = MV
  have hV : mA.le MV := hMV ▸ view1 hleA (Nat.le_refl _) rfl
  clear hMV
  have hMV := hleA.trans hV
  refine store_own (p4.le hMV) (by simp [toL, sz3]) (by simp [toL]) rfl fun mB hnB hxB p4 => ?_
  simp only [toL] at p4
  have hMn := hMV.1
  refine leave_rvm (Ds := [m9.next]) (vs := [.int .i64 a, .int .i64 (maxP js - 1), .int .i64 0]) (fun D hD => by simp at hD; subst hD; rw [hxB _ (by omega), hMV.2 _ (by omega)]; exact hdf) (by simp) fun M2 hn2 hx2 => ?_
  have hx2' : ∀ x, x ≠ m9.next → M2.get x = mB.get x := fun x hx => hx2 x (by simpa using hx)
  refine ⟨.c (ldi (p4.sub hn2 (hx2' _ (by omega))) (j := 0) rfl) (.v (.v .nil)), ?_⟩
  show RK K Kp (.ret (.tuple ⟨[_, _, _]⟩)) M2
  rw [RK_ret]
  have hs := le_of_put (hM.trans hMV) (by omega) hnB hxB
  exact hK _ _ _ _ ⟨by rw [hn2]; exact hs.1, fun y hy => by rw [hx2' y (by omega)]; exact hs.2 y hy⟩
end Go.Proofs.Ytjkfleibnojjaaa.T
end

section
open Go Go.Proofs Go.Proofs.Ytjkfleibnojjaaa
set_option maxRecDepth 100000
namespace Go.Proofs.Ytjkfleibnojjaaa.T
/-- Two warmths, whatever they are. -/
theorem jumpA {d : SeD} {m : CM} {a b : Int} {K : Value → CM → Prop} {Kp : List PanicEntry → CM → Prop} (hK : ∀ m' c, m.le m' → K (.bool c) m') : callw Try.prog 44 [.agg ⟨d.candle⟩, .int .i64 a, .int .i64 b] m K Kp := by
  apply c44
  unfold s44
  refine box_of fun t m1 hle ht ho => ?_
  replace ho : Own m1 t d.candle 0 := ho
  rw [cb_sub, pop_some, cb_sub, pop_some, cmm_max_is, pop_some, fz23_2, pop_some, ldi ho (j := 2) rfl, pop_some, cb_gtr, pop_some, leave1, RK_ret]
  exact hK _ _ hle
theorem _root_.Go.Proofs.Ytjkfleibnojjaaa.KeepX.since {m0 m m' : CM} {B : Nat} (h : m0.le m) (hB : m0.next ≤ B) (k : KeepX m B m') : m0.le m' := ⟨Nat.le_trans h.1 k.1, fun y hy => by rw [k.2 y (Nat.lt_of_lt_of_le hy h.1) (by omega)]; exact h.2 y hy⟩
theorem _root_.Go.Proofs.Ytjkfleibnojjaaa.KeepX.wr1 {m m' : CM} {B : Nat} (hn : m'.next = m.next) (hx : ∀ x, x ≠ B → m'.get x = m.get x) : KeepX m B m' := ⟨by omega, fun y _ hne => hx y hne⟩
theorem _root_.Go.Proofs.Ytjkfleibnojjaaa.KeepX.of_le {m m' : CM} {B : Nat} (h : m.le m') : KeepX m B m' := ⟨h.1, fun y hy _ => h.2 y hy⟩
/-- What a trouble is asked for: it changes its own block alone. -/
def HapOk (d : SeD) (f : FuncId) : Prop := ∀ {m0 m : CM} {B : Nat} {h : Int} {v : Value} {n : Nat} {x : Nat → Int}, m0.le m → m0.next ≤ B → Own m B [.int .i64 h] 0 → Sl 1 m0 v n (fun i => [.int .i64 (x i)]) → 1 ≤ n → n < 4611686018427387904 → ∀ {K : Value → CM → Prop} {Kp : List PanicEntry → CM → Prop},
    (∀ m' h' b, KeepX m B m' → Own m' B [.int .i64 h'] 0 → K (.bool b) m') → callw Try.prog f [.pointer (some ⟨B, 0, none⟩), .agg ⟨d.candle⟩, v] m K Kp
theorem happens84 (d : SeD) : HapOk d 84 := by
  intro m0 m B h v n x hm0 hB1 hB hv hn1 hn2 K Kp hK
  apply c84
  unfold s84
  refine box_of fun t m1 hle ht o4 => ?_
  replace o4 : Own m1 t d.candle 0 := o4
  have hB0 := hB.1
  replace hB := hB.le hle
  simp only [cnilm, cnilc, pop_some, fz84_0]
  rw [ldi hB (j := 0) rfl, pop_some, cb_add, pop_some]
  refine store_own hB (by simp [toL, sz3]) (by simp [toL]) rfl fun m2 hn2 hx2 hB => ?_
  simp only [toL] at hB
  replace o4 := o4.sub hn2 (hx2 _ (by omega))
  have k2 : KeepX m B m2 := (KeepX.of_le hle).trans (.wr1 hn2 hx2)
  have fin : ∀ {M : CM} {h' : Int}, KeepX m B M → Own M B [.int .i64 h'] 0 → Own M t d.candle 0 → j84_0 (RK K Kp) (.pointer (some ⟨B, 0, none⟩)) (.pointer (some ⟨t, 0, none⟩)) M := by
    intro M h' hk hB o4
    unfold j84_0
    simp only [cnilm, cnilc, pop_some, fz84_0, fz23_1]
    rw [ldi hB (j := 0) rfl, pop_some, ldi o4 (j := 1) rfl, pop_some, cb_eql, pop_some, leave1, RK_ret]
    exact hK _ _ _ hk hB
  have hv2 := hv.le (KeepX.since hm0 hB1 k2)
  rw [hv2.len Try.underlying27, pop_some, cb_sub, pop_some, wrap_id (by omega) (by omega)]
  obtain ⟨b, o, hia, hcel, hlen⟩ := hv2.at Try.underlying27 sz3 (i := (n : Int) - 1) (by omega) (by omega)
  rw [hia, pop_some, hcel.s0 ag3 rfl, pop_some, fz23_0, pop_some, ldi o4 (j := 0) rfl, pop_some, cb_lss, pop_some]
  cases decide (x ((n : Int) - 1).toNat < d.bend) with
  | true =>
    rw [cnd_true]
    refine store_own hB (by simp [toL, sz3]) (by simp [toL]) rfl fun m3 hn3 hx3 hB => ?_
    simp only [toL] at hB
    exact fin (k2.trans (.wr1 hn3 hx3)) hB (o4.sub hn3 (hx3 _ (by omega)))
  | false => rw [cnd_false]; exact fin k2 hB o4
theorem happens85 (d : SeD) : HapOk d 85 := by
  intro m0 m B h v n x hm0 hB1 hB hv hn1 hn2 K Kp hK
  apply c85
  unfold s85
  refine box_of fun t m1 hle ht o4 => ?_
  replace o4 : Own m1 t d.candle 0 := o4
  have hB0 := hB.1
  have hv1 := hv.le (hm0.trans hle)
  replace hB := hB.le hle
  rw [hv1.len Try.underlying27, pop_some, cb_sub, pop_some, wrap_id (by omega) (by omega), cb_eql, pop_some]
  have tl : ∀ {M : CM}, m1.le M → pop (cnilm Try.prog (.pointer (some ⟨B, 0, none⟩))) M (fun t28 m => pop (cfa Try.prog 87 0 t28) m (fun t29 m => pop (cload Try.prog 3 t29 m) m (fun t30 m => pop (cbin Try.prog BinOp.add 3 (Operand.tmp 30) (Operand.const (Value.int IntKind.i64 1)) t30 (.int .i64 1)) m (fun t31 m => pop (cnilm Try.prog (.pointer (some ⟨B, 0, none⟩))) m (fun t32 m => pop (cfa Try.prog 87 0 t32) m (fun t33 m => sop (cstore Try.prog 3 t33 t31 m) (fun _ m => pop (cnilm Try.prog (.pointer (some ⟨B, 0, none⟩))) m (fun t35 _ => pop (cfa Try.prog 87 0 t35) m (fun t36 _ => pop (cload Try.prog 3 t36 m) m (fun t37 _ => pop (cfa Try.prog 23 3 (.pointer (some ⟨t, 0, none⟩))) m (fun t38 _ => pop (cload Try.prog 3 t38 m) m (fun t39 _ => pop (cbin Try.prog BinOp.eql 3 (Operand.tmp 37) (Operand.tmp 39) t37 t39) m (fun t40 m => leaveV Try.prog [.v t40] [] .ret m (RK K Kp)))))))))))))) := by
    intro M hM
    simp only [cnilm, cnilc, pop_some, fz87_0]
    rw [ldi (hB.le hM) (j := 0) rfl, pop_some, cb_add, pop_some]
    refine store_own (hB.le hM) (by simp [toL, sz3]) (by simp [toL]) rfl fun m2 hn2 hx2 hB => ?_
    simp only [toL] at hB
    rw [ldi hB (j := 0) rfl, pop_some, fz23_3, pop_some, ldi ((o4.le hM).sub hn2 (hx2 _ (by omega))) (j := 3) rfl, pop_some, cb_eql, pop_some, leave1, RK_ret]
    exact hK _ _ _ ((KeepX.of_le (hle.trans hM)).trans (.wr1 hn2 hx2)) hB
  by_cases h1 : n = 1
  · have e : (((n : Int) - 1) == 0) = true := by subst h1; rfl
    rw [e]
    simp only [gb_bool, show (true == false) = false from rfl, dgs_false, gop_false, cpick_bool, if_true, pop_some, cnd_true]
    rw [leave1, RK_ret]
    exact hK _ _ _ (KeepX.of_le hle) hB
  · have e : (((n : Int) - 1) == 0) = false := by simp; omega
    obtain ⟨b, o, hia, hcel, hlen⟩ := hv1.at Try.underlying27 sz3 (i := (n : Int) - 1) (by omega) (by omega)
    obtain ⟨b2, o2, hia2, hcel2, hlen2⟩ := hv1.at Try.underlying27 sz3 (i := (n : Int) - 1 - 1) (by omega) (by omega)
    rw [e]
    simp only [gb_bool, beq_self_eq_true, dgs_true, gop_true]
    rw [show cload Try.prog 23 (.pointer (some ⟨t, 0, none⟩)) m1 = some (.agg ⟨d.candle⟩) from o4.cel.za ag23 sz23 (j := 0) (by simp), pop_some, cb_sub, pop_some, wrap_id (by omega) (by omega)]
    rw [hia2, pop_some, hcel2.s0 ag3 rfl, pop_some]
    rw [hia, pop_some, hcel.s0 ag3 rfl, pop_some]
    refine jumpA fun m2 c hle2 => ?_
    rw [cun_not, pop_some, cpick_bool, pop_some]
    cases c with
    | false =>
      simp only [Bool.not_false, Bool.false_eq_true, if_false, cnd_true]
      rw [leave1, RK_ret]
      exact hK _ _ _ (KeepX.of_le (hle.trans hle2)) (hB.le hle2)
    | true =>
      simp only [Bool.not_true, Bool.false_eq_true, if_false, cnd_false]
      exact tl hle2
theorem yield12 {A : CA} {l D : Nat} {x0 x1 : Value} {m : CM} (hn : A.n = Try.f12.ntmps) (hl : m.get l = some (.loop (rfRec A #[35, 36] as12_0 bd12_0 D))) {RY : Value → CM → Prop} (h : r12_0 RY l A x0 x1 m) : yieldw Try.prog l [x0, x1] m RY :=
  yield_text mixed (ann := ann12) hl rfl (by rw [hn]; kernel_rfl) (by rw [hn]; kernel_rfl) (by rw [hn]; kernel_rfl) (by rw [er12_0]; exact h)
set_option maxHeartbeats 2000000 in
theorem range12 {d : SeD} {w : WayD} {m0 m8 : CM} {A : CA} {t5 t6 t7 W S : Nat} {v : Value} {x : Nat → Int} (hn : A.n = Try.f12.ntmps)
    (h5 : A.ρ 5 = .pointer (some ⟨t5, 0, none⟩)) (h6 : A.ρ 6 = .pointer (some ⟨t6, 0, none⟩)) (h7 : A.ρ 7 = .pointer (some ⟨t7, 0, none⟩))
    (hok : d.Ok) (hwk : w.Ok d) (hle : m0.le m8) (hd : d.In m0) (hw : w.In m0) (hv : Sl 1 m0 v w.n (fun i => [.int .i64 (x i)]))
    (o5 : Own m8 t5 [v] 0) (oW : Own m8 W [w.v] 0) (oS : Own m8 S d.cells 0) {a0 b0 c0 : Int} (o6 : Own m8 t6 [.int .i64 a0, .int .i64 b0] 0) (o7 : Own m8 t7 [.int .i64 c0] 0)
    (g6 : m0.next ≤ t6) (g7 : m0.next ≤ t7) (n67 : t6 ≠ t7) (hne : t5 ≠ t6 ∧ t5 ≠ t7 ∧ W ≠ t6 ∧ W ≠ t7 ∧ S ≠ t6 ∧ S ≠ t7)
    {KE : Nat → Exit → CM → Prop} {KP : Nat → List PanicEntry → CM → Prop} (hN : ∀ (e : Exit) (M : CM) (R' : CL) (a b c : Int), (e = .normal ∨ e = .ret) → LS m8 (fun x => x = t6 ∨ x = t7) R' M → Own M t6 [.int .i64 a, .int .i64 b] 0 → Own M t7 [.int .i64 c] 0 → KE m8.next e M) :
    rfO Try.prog (.func (.func 59) ⟨[]⟩ ⟨[.pointer (some ⟨W, 0, none⟩), .pointer (some ⟨S, 0, none⟩)]⟩) m8 (fun D => rfRec A #[35, 36] as12_0 bd12_0 D) KE KP := by
  have hwn := hwk.n
  have hn3 := hok.n3
  have hr0 := (hok.r 0 (by omega)).d
  obtain ⟨k1, k2, k3, k4, k5, k6⟩ := hne
  have c6 := o6.1; have c7 := o7.1
  refine ⟨59, [], [.pointer (some ⟨W, 0, none⟩), .pointer (some ⟨S, 0, none⟩)], rfl, ?_⟩
  show callw Try.prog 59 [yv (m8.next + 1), .pointer (some ⟨W, 0, none⟩), .pointer (some ⟨S, 0, none⟩)] _ _ _
  let REC : CL := rfRec A #[35, 36] as12_0 bd12_0 m8.next
  let Wt : Nat → Prop := fun x => x = t6 ∨ x = t7
  have hWt : ∀ x, Wt x → m0.next ≤ x := fun x hx => by rcases hx with rfl | rfl <;> assumption
  have nW : ¬ Wt W := fun h => by rcases h with h | h <;> omega
  have nS : ¬ Wt S := fun h => by rcases h with h | h <;> omega
  have n5 : ¬ Wt t5 := fun h => by rcases h with h | h <;> omega
  refine iter59 (d := d) (w := w) (I := fun i M => LS m8 Wt REC M ∧ Own M t6 [.int .i64 a0, .int .i64 b0] 0 ∧ Own M t7 [.int .i64 c0] 0)
    (J := fun M => ∃ (a b c : Int), LS m8 Wt { REC with state := .done, pending := some .ret } M ∧ Own M t6 [.int .i64 a, .int .i64 b] 0 ∧ Own M t7 [.int .i64 c] 0) hok hwk ?_ ?_ ?_ ?_
  · rintro i M ⟨g, _⟩
    have hM := g.since hle hWt
    exact ⟨hd.le hM, hw.le hM, g.own oW nW, g.own oS nS⟩
  · rintro i M K' ⟨g, p6, p7⟩ hi hT hF
    have gn := g.nx
    refine yield12 hn g.l ?_
    unfold r12_0
    refine alw_of ze72 fun t10 m1 hle1 hb10 o10 => store_own o10 (by simp [toL, sz72]) (by simp [toL]) rfl fun m2 hn2 hx2 o10 => ?_
    simp only [toL] at o10
    have hle2 : M.le m2 := le_of_put hle1 hb10 hn2 hx2
    have c10 := o10.1
    replace g := g.le hle2
    replace p6 := p6.le hle2
    replace p7 := p7.le hle2
    refine ⟨REC, g.l, rfl, ?_⟩
    have gB := g.put (R' := { REC with state := .busy })
    have p6' := Own.put_ne (y := .loop { REC with state := .busy }) p6 (show t6 ≠ m8.next + 1 by omega)
    have p7' := Own.put_ne (y := .loop { REC with state := .busy }) p7 (show t7 ≠ m8.next + 1 by omega)
    have p10 := Own.put_ne (y := .loop { REC with state := .busy }) o10 (show t10 ≠ m8.next + 1 by omega)
    clear p6 p7 o10
    generalize m2.put (m8.next + 1) (.loop { REC with state := .busy }) = B at *
    have p5 := gB.own o5 n5
    obtain ⟨b, o, hia, hcel, hlen⟩ := (hv.le (gB.since hle hWt)).at Try.underlying27 sz3 (i := i) (by omega) (by omega)
    simp only [h5, h6, h7, fz72_0, fz72_1, pop_some]
    rw [ldi p10 (j := 0) rfl, pop_some, ldi p10 (j := 1) rfl, pop_some, p5.cel.z ag27 (j := 0) rfl, pop_some, hia, pop_some, hcel.s0 ag3 rfl, pop_some]
    refine out_1J (fun t m1 h => view1 h (Nat.le_refl _) rfl) fun t m1 bb m3 h1 h2 h3 _ => ?_
    replace gB := gB.le h3
    replace p6' := p6'.le h3
    replace p7' := p7'.le h3
    cases bb with
    | false =>
      rw [cnd_false]
      exact ⟨none, _, rfl, gB.l, hT _ ⟨gB.put, Own.put_ne p6' (by omega), Own.put_ne p7' (by omega)⟩⟩
    | true =>
      rw [cnd_true, lda p6' ag43 sz43, pop_some]
      refine store_own p6' (by simp [toL, sz43]) (by simp [toL]) rfl fun m5 hn5 hx5 p6' => ?_
      simp only [toL] at p6'
      refine store_own (p7'.sub hn5 (hx5 _ n67.symm)) (by simp [toL, sz36]) (by simp [toL]) rfl fun m6 hn6 hx6 p7' => ?_
      simp only [toL] at p7'
      replace p6' := p6'.sub hn6 (hx6 _ n67)
      have g6' := (gB.wr hn5 hx5 (.inl ⟨c6, .inl rfl⟩)).wr hn6 hx6 (.inl ⟨c7, .inr rfl⟩)
      exact ⟨some .ret, _, rfl, g6'.l, hF _ ⟨_, _, _, g6'.put, Own.put_ne p6' (by omega), Own.put_ne p7' (by omega)⟩⟩
  · exact ⟨LS.init, o6.alloc2, o7.alloc2⟩
  · rintro v0 M (⟨g, p6, p7⟩ | ⟨a, b, c, g, p6, p7⟩)
    · have gn := g.nx
      refine ⟨REC, g.l, (by intro h; cases h), .normal, rfl, ?_⟩
      exact hN _ _ _ _ _ _ (.inl rfl) g.put (Own.put_ne p6 (by omega)) (Own.put_ne p7 (by omega))
    · have gn := g.nx
      refine ⟨_, g.l, (by intro h; cases h), .ret, rfl, ?_⟩
      exact hN _ _ _ _ _ _ (.inr rfl) g.put (Own.put_ne p6 (by omega)) (Own.put_ne p7 (by omega))
end Go.Proofs.Ytjkfleibnojjaaa.T
end

section
open Go Go.Proofs Go.Proofs.Ytjkfleibnojjaaa
set_option maxRecDepth 100000
namespace Go.Proofs.Ytjkfleibnojjaaa.T
theorem md82 : methD Try.prog 82 "stearin/store.happens" = some 84 := by kernel_rfl
theorem md85 : methD Try.prog 85 "stearin/store.happens" = some 85 := by kernel_rfl
theorem mk82 (b : Nat) : cmkI Try.prog 82 (.pointer (some ⟨b, 0, none⟩)) = some (.iface 82 (.pointer (some ⟨b, 0, none⟩))) := by kernel_rfl
theorem mk85 (b : Nat) : cmkI Try.prog 85 (.pointer (some ⟨b, 0, none⟩)) = some (.iface 85 (.pointer (some ⟨b, 0, none⟩))) := by kernel_rfl
theorem as82_82 (b : Nat) : cassert Try.prog (.iface 82 (.pointer (some ⟨b, 0, none⟩))) 82 true = some (.tuple ⟨[.pointer (some ⟨b, 0, none⟩), .bool true]⟩) := by kernel_rfl
theorem as85_82 (b : Nat) : cassert Try.prog (.iface 85 (.pointer (some ⟨b, 0, none⟩))) 82 true = some (.tuple ⟨[.pointer none, .bool false]⟩) := by kernel_rfl
theorem as85_85 (b : Nat) : cassert Try.prog (.iface 85 (.pointer (some ⟨b, 0, none⟩))) 85 true = some (.tuple ⟨[.pointer (some ⟨b, 0, none⟩), .bool true]⟩) := by kernel_rfl
theorem hcb84 : cbuild Try.prog 84 [] = some (.agg ⟨[.int .i64 0]⟩) := by kernel_rfl
theorem hcb87 : cbuild Try.prog 87 [] = some (.agg ⟨[.int .i64 0]⟩) := by kernel_rfl
theorem hcb43 (a b : Int) : cbuild Try.prog 43 [(0, .int .i64 a), (1, .int .i64 b)] = some (.agg ⟨[.int .i64 a, .int .i64 b]⟩) := by kernel_rfl
/-- The blocks of Fate, behind the range. -/
structure FS (m0 : CM) (d : SeD) (v : Value) (t5 t6 t7 t8 D B1 B2 tl : Nat) (M : CM) : Prop where
  le : m0.le M
  o5 : Own M t5 [v] 0
  o6 : ∃ a b : Int, Own M t6 [.int .i64 a, .int .i64 b] 0
  o7 : ∃ c : Int, Own M t7 [.int .i64 c] 0
  o8 : Own M t8 d.cells 0
  df : M.get D = some .dfr
  dl : D < M.next
  b1 : ∃ h : Int, Own M B1 [.int .i64 h] 0
  b2 : ∃ h : Int, Own M B2 [.int .i64 h] 0
  ol : Own M tl [.iface 82 (.pointer (some ⟨B1, 0, none⟩)), .iface 85 (.pointer (some ⟨B2, 0, none⟩))] 1
theorem Own.keepX {m m' : CM} {B b e : Nat} {l : List Value} (h : Own m b l e) (k : KeepX m B m') (hne : b ≠ B) : Own m' b l e := ⟨Nat.lt_of_lt_of_le h.1 k.1, by rw [k.2 _ h.1 hne]; exact h.2⟩
/-- One of them changes. -/
theorem FS.ch {m0 M M' : CM} {d : SeD} {v : Value} {t5 t6 t7 t8 D B1 B2 tl : Nat} (h : FS m0 d v t5 t6 t7 t8 D B1 B2 tl M) {B : Nat} (k : KeepX M B M') (hB : m0.next ≤ B) (q5 : t5 ≠ B) (q8 : t8 ≠ B) (qD : D ≠ B) (ql : tl ≠ B)
    (h6 : t6 = B → ∃ a b : Int, Own M' t6 [.int .i64 a, .int .i64 b] 0) (h7 : t7 = B → ∃ c : Int, Own M' t7 [.int .i64 c] 0) (h1 : B1 = B → ∃ h : Int, Own M' B1 [.int .i64 h] 0) (h2 : B2 = B → ∃ h : Int, Own M' B2 [.int .i64 h] 0) : FS m0 d v t5 t6 t7 t8 D B1 B2 tl M' := by
  refine ⟨KeepX.since h.le hB k, Own.keepX h.o5 k q5, ?_, ?_, Own.keepX h.o8 k q8, by rw [k.2 _ h.dl qD]; exact h.df, Nat.lt_of_lt_of_le h.dl k.1, ?_, ?_, Own.keepX h.ol k ql⟩
  · by_cases e : t6 = B
    · exact h6 e
    · obtain ⟨a, b, ho⟩ := h.o6; exact ⟨a, b, Own.keepX ho k e⟩
  · by_cases e : t7 = B
    · exact h7 e
    · obtain ⟨a, ho⟩ := h.o7; exact ⟨a, Own.keepX ho k e⟩
  · by_cases e : B1 = B
    · exact h1 e
    · obtain ⟨a, ho⟩ := h.b1; exact ⟨a, Own.keepX ho k e⟩
  · by_cases e : B2 = B
    · exact h2 e
    · obtain ⟨a, ho⟩ := h.b2; exact ⟨a, Own.keepX ho k e⟩
set_option maxHeartbeats 4000000 in
theorem fate0 {d : SeD} {m0 M : CM} {v : Value} {n : Nat} {x : Nat → Int} {t5 t6 t7 t8 D : Nat} (hv : Sl 1 m0 v n (fun i => [.int .i64 (x i)])) (hn2 : n < 4611686018427387904) (hle : m0.le M)
    (o5 : Own M t5 [v] 0) {a0 b0 c0 : Int} (o6 : Own M t6 [.int .i64 a0, .int .i64 b0] 0) (o7 : Own M t7 [.int .i64 c0] 0) (o8 : Own M t8 d.cells 0) (df : M.get D = some .dfr) (dl : D < M.next)
    (g6 : m0.next ≤ t6) (q : t5 < t6 ∧ t6 < t7 ∧ t7 < t8 ∧ t8 < D) {K : Value → CM → Prop} {Kp : List PanicEntry → CM → Prop}
    (hK : ∀ m' (a b e : Int), m0.le m' → K (.tuple ⟨[.agg ⟨[.int .i64 a, .int .i64 b]⟩, .int .i64 e]⟩) m') : j12_0 (RK K Kp) (.pointer (some ⟨t6, 0, none⟩)) (.pointer (some ⟨t5, 0, none⟩)) (.pointer (some ⟨t7, 0, none⟩)) (.pointer (some ⟨t8, 0, none⟩)) [mark D] M := by
  obtain ⟨q1, q2, q3, q4⟩ := q
  unfold j12_0
  rw [hcb43, pop_some]
  refine store_own o6 (by simp [toL, sz43]) (by simp [toL]) rfl fun m1 hn1 hx1 o6 => ?_
  simp only [toL] at o6
  rw [hcb84, pop_some]
  refine box_of fun B1 m2 hle2 hb1 ob1 => ?_
  replace ob1 : Own m2 B1 [.int .i64 0] 0 := ob1
  rw [mk82, pop_some, hcb87, pop_some]
  refine box_of fun B2 m3 hle3 hb2 ob2 => ?_
  replace ob2 : Own m3 B2 [.int .i64 0] 0 := ob2
  rw [mk85, pop_some]
  refine lit_of Try.underlying88 (k := 2) sz90 ze90 rfl (by decide) rfl fun tl m4 hle4 hbl ol => ?_
  have a2 := hle2.1; have a3 := hle3.1
  have cb1 := ob1.1; have cb2 := ob2.1
  have hle14 : m1.le m4 := (hle2.trans hle3).trans hle4
  have kM1 : KeepX M t6 m1 := KeepX.wr1 hn1 hx1
  have kM4 : KeepX M t6 m4 := kM1.le hle14
  have q5 : t8 < B1 := by omega
  have q5' : D < B1 := by omega
  have q6 : B1 < B2 := by omega
  have q7 : B2 < tl := by omega
  have hFS : FS m0 d v t5 t6 t7 t8 D B1 B2 tl m4 := ⟨KeepX.since hle g6 kM4, Own.keepX o5 kM4 (by omega), ⟨_, _, o6.le hle14⟩, ⟨_, Own.keepX o7 kM4 (by omega)⟩, Own.keepX o8 kM4 (by omega), by rw [kM4.2 _ dl (by omega)]; exact df, Nat.lt_of_lt_of_le dl kM4.1, ⟨_, (ob1.le hle3).le hle4⟩, ⟨_, ob2.le hle4⟩, ol⟩
  rw [show clen Try.prog 88 (.slice (some ⟨tl, 0, none⟩) 2 0) m4 = some (.int .i64 2) from by simp [clen, Try.underlying88, goInt], pop_some]
  have hx12 : ∀ {M : CM} {a : Int}, Own M t6 [.int .i64 a] 0 → True := fun _ => trivial
  clear hle14 kM1 kM4 o6 o7 o8 o5 ob1 ob2 ol df hle2 hle3 hle4 hx1 a2 a3
  refine loopA_of (fun l0 ds m' => ds = [mark D] ∧ FS m0 d v t5 t6 t7 t8 D B1 B2 tl m' ∧ ∃ i : Nat, i ≤ 2 ∧ l0 = [.pointer (some ⟨t5, 0, none⟩), .pointer (some ⟨t6, 0, none⟩), .pointer (some ⟨t7, 0, none⟩), .pointer (some ⟨t8, 0, none⟩), .slice (some ⟨tl, 0, none⟩) 2 0, .int .i64 2, .int .i64 i])
    (fun l0 _ => match l0 with | [_, _, _, _, _, _, .int _ i] => 2 - i.toNat | _ => 0) ⟨rfl, hFS, 0, by omega, rfl⟩ ?_
  clear hFS
  rintro X1 ρ ds M1 ⟨rfl, hF, i, hi, hll⟩ hX
  simp only [List.map_cons, List.map_nil, List.cons.injEq, and_true] at hll
  obtain ⟨p5, p6, p7, p8, p55, p56, p57⟩ := hll
  simp only [p5, p6, p7, p8, p55, p56, p57, cb_lss, pop_some]
  by_cases hci : (i : Int) < 2
  rotate_left
  · rw [decide_eq_false hci, cnd_false]
    obtain ⟨a, b, r6⟩ := hF.o6
    obtain ⟨c, r7⟩ := hF.o7
    rw [lda r6 ag43 sz43, pop_some]
    refine store_own r6 (by simp [toL, sz43]) (by simp [toL]) rfl fun m5 hn5 hx5 r6 => ?_
    simp only [toL] at r6
    refine store_own (r7.sub hn5 (hx5 _ (by omega))) (by simp [toL, sz36]) (by simp [toL]) rfl fun m6 hn6 hx6 r7 => ?_
    simp only [toL] at r7
    have c6 := r6.1; have c7 := r7.1
    refine leave_rvm (Ds := [D]) (vs := [.agg ⟨[.int .i64 a, .int .i64 b]⟩, .int .i64 0]) (fun D' hD => by simp at hD; subst hD; rw [hx6 _ (by omega), hx5 _ (by omega)]; exact hF.df) (by simp) fun M2 hn2 hx2 => ?_
    have hx2' : ∀ y, y ≠ D → M2.get y = m6.get y := fun y hy => hx2 y (by simpa using hy)
    refine ⟨.c (lda ((r6.sub hn6 (hx6 _ (by omega))).sub hn2 (hx2' _ (by omega))) ag43 sz43) (.c ((r7.sub hn2 (hx2' _ (by omega))).cel.z ag36 (j := 0) rfl) .nil), ?_⟩
    show RK K Kp (.ret (.tuple ⟨[_, _]⟩)) M2
    rw [RK_ret]
    have hs := le_of_put (le_of_put hF.le g6 hn5 hx5) (b := t7) (by omega) hn6 hx6
    exact hK _ _ _ _ ⟨by rw [hn2]; exact hs.1, fun y hy => by rw [hx2' y (by omega)]; exact hs.2 y hy⟩
  rw [decide_eq_true hci, cnd_true, cia_own Try.underlying88 sz90 (by omega) (by omega)]
  simp only [pop_some, Int.toNat_natCast, Nat.mul_one]
  obtain ⟨ty, B, f, hel, hcase⟩ : ∃ ty B f, cload Try.prog 90 (.pointer (some ⟨tl, i, none⟩)) M1 = some (.iface ty (.pointer (some ⟨B, 0, none⟩))) ∧ ((ty = 82 ∧ B = B1 ∧ f = 84) ∨ (ty = 85 ∧ B = B2 ∧ f = 85)) := by
    rcases (show i = 0 ∨ i = 1 by omega) with rfl | rfl
    · exact ⟨82, B1, 84, hF.ol.cel.z ag90 (j := 0) rfl, .inl ⟨rfl, rfl, rfl⟩⟩
    · exact ⟨85, B2, 85, hF.ol.cel.z ag90 (j := 1) rfl, .inr ⟨rfl, rfl, rfl⟩⟩
  rw [hel, pop_some, hF.o5.cel.z ag27 (j := 0) rfl, pop_some, (hv.le hF.le).len Try.underlying27, pop_some]
  have hmd : methD Try.prog ty "stearin/store.happens" = some f := by rcases hcase with ⟨rfl, rfl, rfl⟩ | ⟨rfl, rfl, rfl⟩; exact md82; exact md85
  have hHap : HapOk d f := by rcases hcase with ⟨rfl, rfl, rfl⟩ | ⟨rfl, rfl, rfl⟩; exact happens84 d; exact happens85 d
  have hBb : D < B ∧ B < tl := by rcases hcase with ⟨rfl, rfl, rfl⟩ | ⟨rfl, rfl, rfl⟩ <;> omega
  have hBo : ∀ {M}, FS m0 d v t5 t6 t7 t8 D B1 B2 tl M → ∃ h : Int, Own M B [.int .i64 h] 0 := by intro M h; rcases hcase with ⟨rfl, rfl, rfl⟩ | ⟨rfl, rfl, rfl⟩; exact h.b1; exact h.b2
  have nx : ∀ {M}, FS m0 d v t5 t6 t7 t8 D B1 B2 tl M → j12_2 (RK K Kp) X1 (.int .i64 i) (.pointer (some ⟨t5, 0, none⟩)) (.pointer (some ⟨t6, 0, none⟩)) (.pointer (some ⟨t7, 0, none⟩)) (.pointer (some ⟨t8, 0, none⟩)) (.slice (some ⟨tl, 0, none⟩) 2 0) (.int .i64 2) [mark D] M := by
    intro M h
    unfold j12_2
    rw [cb_add, pop_some, wrap_id (by omega) (by omega)]
    refine hX _ _ _ ⟨rfl, h, i + 1, by omega, by simp⟩ ?_
    simp only [List.map_cons, List.map_nil, p57]; omega
  clear hX hel
  refine loopA_of (fun l0 ds m' => ds = [mark D] ∧ FS m0 d v t5 t6 t7 t8 D B1 B2 tl m' ∧ ∃ j : Nat, j ≤ n ∧ l0 = [.pointer (some ⟨t5, 0, none⟩), .pointer (some ⟨t6, 0, none⟩), .pointer (some ⟨t7, 0, none⟩), .pointer (some ⟨t8, 0, none⟩), .iface ty (.pointer (some ⟨B, 0, none⟩)), .slice (some ⟨tl, 0, none⟩) 2 0, .int .i64 2, .int .i64 i, .int .i64 n, .int .i64 j])
    (fun l0 _ => match l0 with | [_, _, _, _, _, _, _, _, _, .int _ j] => n - j.toNat | _ => 0) ⟨rfl, hF, 0, by omega, rfl⟩ ?_
  clear hF
  rintro X2 σ ds M2 ⟨rfl, hF, j, hj, hll⟩ hX2
  simp only [List.map_cons, List.map_nil, List.cons.injEq, and_true] at hll
  obtain ⟨r5, r6, r7, r8, r12, r55, r56, r57, r62, r63⟩ := hll
  simp only [r5, r6, r7, r8, r12, r55, r56, r57, r62, r63, cb_lss, pop_some]
  by_cases hcj : (j : Int) < (n : Int)
  rotate_left
  · rw [decide_eq_false hcj, cnd_false]
    exact nx hF
  rw [decide_eq_true hcj, cnd_true]
  simp only [fz76_0, fz26_0, pop_some]
  rw [show cload Try.prog 23 (.pointer (some ⟨t8, 0, none⟩)) M2 = some (.agg ⟨d.candle⟩) from hF.o8.cel.za ag23 sz23 (j := 0) (by simp), pop_some, hF.o5.cel.z ag27 (j := 0) rfl, pop_some, cb_add, pop_some, wrap_id (by omega) (by omega)]
  obtain ⟨v', hv', hs'⟩ := hv.pre Try.underlying27 sz3 (by decide) (i := (j : Int) + 1) (by omega) (by omega) (by omega) hF.le
  rw [hv', pop_some, show cnilm Try.prog (.func (Fn.method "stearin/store.happens") ⟨[.iface ty (.pointer (some ⟨B, 0, none⟩))]⟩ ⟨[]⟩) = some (.func (Fn.method "stearin/store.happens") ⟨[.iface ty (.pointer (some ⟨B, 0, none⟩))]⟩ ⟨[]⟩) from by simp only [cnilm, hmd], pop_some]
  obtain ⟨h0, hB0⟩ := hBo hF
  refine methw_ptr hmd (hHap hF.le (by omega) hB0 hs' (by omega) (by omega) fun M3 h' bb hk hB3 => ?_)
  have hF3 : FS m0 d v t5 t6 t7 t8 D B1 B2 tl M3 := hF.ch hk (by omega) (by omega) (by omega) (by omega) (by omega) (fun e => by omega) (fun e => by omega) (fun e => by subst e; exact ⟨_, hB3⟩) (fun e => by subst e; exact ⟨_, hB3⟩)
  rw [cun_not, pop_some]
  cases bb with
  | false =>
    rw [show (!false) = true from rfl, cnd_true, cb_add, pop_some, wrap_id (by omega) (by omega)]
    refine hX2 _ _ _ ⟨rfl, hF3, j + 1, by omega, by simp⟩ ?_
    simp only [List.map_cons, List.map_nil, r63]; omega
  | true =>
    rw [show (!true) = false from rfl, cnd_false]
    obtain ⟨a, b, s6⟩ := hF3.o6
    have ex : ∀ {M4 : CM}, FS m0 d v t5 t6 t7 t8 D B1 B2 tl M4 → j12_1 (RK K Kp) X1 X2 (.int .i64 i) (.pointer (some ⟨t5, 0, none⟩)) (.pointer (some ⟨t6, 0, none⟩)) (.pointer (some ⟨t7, 0, none⟩)) (.pointer (some ⟨t8, 0, none⟩)) (.slice (some ⟨tl, 0, none⟩) 2 0) (.int .i64 2) [mark D] M4 := fun h => by unfold j12_1; exact nx h
    rcases hcase with ⟨rfl, rfl, rfl⟩ | ⟨rfl, rfl, rfl⟩
    · rw [as82_82, pop_some]
      simp only [cext, List.getElem?_cons_zero, List.getElem?_cons_succ, pop_some, cnd_true, fz43_0]
      refine s6.store (o := 0) sz3 (by simp [toL]) rfl fun M4 hn4 hx4 s6 => ?_
      exact ex (hF3.ch (KeepX.wr1 hn4 hx4) g6 (by omega) (by omega) (by omega) (by omega) (fun _ => ⟨_, _, s6⟩) (fun e => by omega) (fun e => by omega) (fun e => by omega))
    · rw [as85_82, pop_some]
      simp only [cext, List.getElem?_cons_zero, List.getElem?_cons_succ, pop_some, cnd_false]
      rw [as85_85, pop_some]
      simp only [cext, List.getElem?_cons_zero, List.getElem?_cons_succ, pop_some, cnd_true, fz43_1]
      refine s6.store (o := 1) sz3 (by simp [toL]) rfl fun M4 hn4 hx4 s6 => ?_
      exact ex (hF3.ch (KeepX.wr1 hn4 hx4) g6 (by omega) (by omega) (by omega) (by omega) (fun _ => ⟨_, _, s6⟩) (fun e => by omega) (fun e => by omega) (fun e => by omega))
end Go.Proofs.Ytjkfleibnojjaaa.T
end

section
open Go Go.Proofs Go.Proofs.Ytjkfleibnojjaaa
set_option maxRecDepth 100000
namespace Go.Proofs.Ytjkfleibnojjaaa.T
set_option maxHeartbeats 2000000 in
theorem Fate12 {d : SeD} {w : WayD} {m : CM} {v : Value} {n : Nat} {x : Nat → Int} (hd : d.In m) (hw : w.In m) (hv : Sl 1 m v n (fun i => [.int .i64 (x i)])) (hn2 : n < 4611686018427387904) {K : Value → CM → Prop} {Kp : List PanicEntry → CM → Prop}
    (hK : ∀ m' (a b e : Int), m.le m' → K (.tuple ⟨[.agg ⟨[.int .i64 a, .int .i64 b]⟩, .int .i64 e]⟩) m') : callw Try.prog 12 [.agg ⟨d.cells⟩, w.v, v] m K Kp := by
  apply c12
  unfold s12
  refine box_of fun t3 m1 hle1 hb3 o3 => box_of fun t5 m2 hle2 hb5 o5 => alw_of (show zeroL Try.prog 43 = some [.int .i64 0, .int .i64 0] from ze43) fun t6 m3 hle3 hb6 o6 => alw_of (show zeroL Try.prog 36 = some [.int .i64 0] from ze36) fun t7 m4 hle4 hb7 o7 => ?_
  replace o3 : Own m1 t3 d.cells 0 := o3
  rw [toL_one hv.one] at o5
  have a1 := hle1.1; have a2 := hle2.1; have a3 := hle3.1; have a4 := hle4.1
  have c3 := o3.1; have c5 := o5.1; have c6 := o6.1; have c7 := o7.1
  have hle := ((hle1.trans hle2).trans hle3).trans hle4
  rw [lda (((o3.le hle2).le hle3).le hle4) ag26 sz26, pop_some]
  replace o5 := (o5.le hle3).le hle4
  replace o6 := o6.le hle4
  refine open39 (hd.le hle) (hw.s.le hle) hw.n0 fun m5 e hle5 h5 => ?_
  have a5 := hle5.1
  replace hle := hle.trans hle5
  replace o5 := o5.le hle5
  replace o6 := o6.le hle5
  replace o7 := o7.le hle5
  simp only [cext, List.getElem?_cons_zero, List.getElem?_cons_succ, pop_some]
  refine alw_of ze76 fun t8 m6 hle6 hb8 o8 => store_own o8 (by simp [toL, sz76]) (by simp [toL]) (SeD.one (hd.le (hle.trans hle6))) fun m7 hn7 hx7 o8 => ?_
  replace o8 : Own m7 t8 d.cells 0 := o8
  have a6 := hle6.1
  have c8 := o8.1
  have hle7 := le_of_put hle6 hb8 hn7 hx7
  replace hle := hle.trans hle7
  replace o5 := o5.le hle7
  replace o6 := o6.le hle7
  replace o7 := o7.le hle7
  refine store_own o7 (by simp [toL, sz36]) (by simp [toL]) rfl fun m8 hn8 hx8 o7 => ?_
  simp only [toL] at o7
  replace hle := le_of_put hle (b := t7) (by omega) hn8 hx8
  replace o5 := o5.sub hn8 (hx8 _ (by omega))
  replace o6 := o6.sub hn8 (hx8 _ (by omega))
  replace o8 := o8.sub hn8 (hx8 _ (by omega))
  rw [o7.cel.z ag36 (j := 0) rfl, pop_some, cb_neq, pop_some]
  have fin : ∀ {M : CM} {a b e : Int}, m.le M → Own M t6 [.int .i64 a, .int .i64 b] 0 → Own M t7 [.int .i64 e] 0 → leaveV Try.prog [.c 43 (.pointer (some ⟨t6, 0, none⟩)), .c 36 (.pointer (some ⟨t7, 0, none⟩))] [] .ret M (RK K Kp) := by
    intro M a b e hM p6 p7
    refine leave_rvs (.c (lda p6 ag43 sz43) (.c (p7.cel.z ag36 (j := 0) rfl) .nil)) ?_
    show RK K Kp (.ret (.tuple ⟨[_, _]⟩)) M
    rw [RK_ret]
    exact hK _ _ _ _ hM
  cases hb : (e != 0) with
  | true =>
    rw [cnd_true, lda o6 ag43 sz43, pop_some, o7.cel.z ag36 (j := 0) rfl, pop_some]
    refine lstw_own o6.2 (by simp [toL, sz43]) (by simp [toL]) rfl ⟨⟨o6.1, (by omega), trivial⟩, (by simp), ?_⟩
    generalize hML : memL m8 _ [(2, t6, _)] (fun _ => true) m8.next = ML
    rw [memL1 rfl (getJ0 o6.2 rfl)] at hML
    have hMLx : ∀ x, x ≠ t6 → ML.get x = m8.get x := fun x h1 => by subst hML; rw [CM.get_put, if_neg h1]; rfl
    have hMLn : ML.next = m8.next := by subst hML; rfl
    have o6' : Own ML t6 [.int .i64 0, .int .i64 0] 0 := ⟨by rw [hMLn]; exact o6.1, by subst hML; rw [CM.get_put, if_pos rfl]; rfl⟩
    refine store_own (o7.sub hMLn (hMLx _ (by omega))) (by simp [toL, sz36]) (by simp [toL]) rfl fun m9 hn9 hx9 o7 => ?_
    simp only [toL] at o7
    exact fin (le_of_put (le_of_put hle (b := t6) (by omega) hMLn hMLx) (b := t7) (by omega) hn9 hx9) (o6'.sub hn9 (hx9 _ (by omega))) o7
  | false =>
  obtain ⟨hok, hwn, hwx⟩ := h5 (by simpa using hb)
  have hwk : w.Ok d := ⟨hwn, hwx⟩
  rw [cnd_false, o5.cel.z ag27 (j := 0) rfl, pop_some, (hv.le hle).len Try.underlying27, pop_some, hw.s.len Try.underlying27, pop_some, cb_neq, pop_some]
  by_cases hnn : n = w.n
  rotate_left
  · rw [show ((n : Int) != (w.n : Int)) = true from by simp; omega, cnd_true, lda o6 ag43 sz43, pop_some]
    refine store_own o6 (by simp [toL, sz43]) (by simp [toL]) rfl fun m9 hn9 hx9 o6 => ?_
    simp only [toL] at o6
    refine store_own (o7.sub hn9 (hx9 _ (by omega))) (by simp [toL, sz36]) (by simp [toL]) rfl fun mA hnA hxA o7 => ?_
    simp only [toL] at o7
    exact fin (le_of_put (le_of_put hle (b := t6) (by omega) hn9 hx9) (b := t7) (by omega) hnA hxA) (o6.sub hnA (hxA _ (by omega))) o7
  subst hnn
  rw [show ((w.n : Int) != (w.n : Int)) = false from by simp, cnd_false, lda o8 ag76 sz76, pop_some]
  refine along40 (hd.le hle) (hw.le hle) fun m9 W S hle9 hW hS oW oS => ?_
  have a9 := hle9.1
  replace o5 := o5.le hle9
  replace o6 := o6.le hle9
  replace o7 := o7.le hle9
  replace o8 := o8.le hle9
  replace hle := hle.trans hle9
  refine range12 (d := d) (w := w) (m0 := m) rfl rfl rfl rfl hok hwk hle hd hw hv o5 oW oS o6 o7 (by omega) (by omega) (by omega) ⟨by omega, by omega, by omega, by omega, by omega, by omega⟩ fun e M R' a b c he g p6 p7 => ?_
  have hM : m.le M := g.since hle (fun x hx => by rcases hx with rfl | rfl <;> omega)
  have gn := g.nx
  rcases he with rfl | rfl
  · show j12_0 (RK K Kp) (.pointer (some ⟨t6, 0, none⟩)) (.pointer (some ⟨t5, 0, none⟩)) (.pointer (some ⟨t7, 0, none⟩)) (.pointer (some ⟨t8, 0, none⟩)) [mark m9.next] M
    exact fate0 (d := d) hv hn2 hM (g.own o5 (fun h => by rcases h with h | h <;> omega)) p6 p7 (g.own o8 (fun h => by rcases h with h | h <;> omega)) g.d (by omega) (by omega) ⟨by omega, by omega, by omega, by omega⟩ hK
  · show leaveV Try.prog [.c 43 (.pointer (some ⟨t6, 0, none⟩)), .c 36 (.pointer (some ⟨t7, 0, none⟩))] [mark m9.next] .ret M (RK K Kp)
    refine leave_rvm (Ds := [m9.next]) (vs := [.agg ⟨[.int .i64 a, .int .i64 b]⟩, .int .i64 c]) (fun D' hD => by simp at hD; subst hD; exact g.d) (by simp) fun M2 hn2 hx2 => ?_
    have hx2' : ∀ y, y ≠ m9.next → M2.get y = M.get y := fun y hy => hx2 y (by simpa using hy)
    refine ⟨.c (lda (p6.sub hn2 (hx2' _ (by omega))) ag43 sz43) (.c ((p7.sub hn2 (hx2' _ (by omega))).cel.z ag36 (j := 0) rfl) .nil), ?_⟩
    show RK K Kp (.ret (.tuple ⟨[_, _]⟩)) M2
    rw [RK_ret]
    exact hK _ _ _ _ ⟨by rw [hn2]; exact hM.1, fun y hy => by rw [hx2' y (by omega)]; exact hM.2 y hy⟩
end Go.Proofs.Ytjkfleibnojjaaa.T
end

section
open Go Go.Proofs Go.Proofs.Ytjkfleibnojjaaa
set_option maxRecDepth 100000
namespace Go.Proofs.Ytjkfleibnojjaaa.T
/-! ### Show, in plain words -/
theorem accL_mem {J k : Int} : ∀ {l : List Int} {b acc : Int} {i : Nat} {n : Int}, l[i]? = some n → n ≤ accL J k l b acc
  | [], _, _, i, n, h => by simp at h
  | x :: l, b, acc, 0, n, h => by
    simp at h; subst h
    have h1 : x ≤ upP J k b x := by unfold upP; split <;> omega
    have h2 := le_mx2 acc (upP J k b x)
    have h3 : mx acc (upP J k b x) ≤ accL J k l (b + 1) (mx acc (upP J k b x)) := accL_ge
    show x ≤ accL J k l (b + 1) (mx acc (upP J k b x))
    omega
  | x :: l, b, acc, i + 1, n, h => by
    show n ≤ accL J k l (b + 1) (mx acc (upP J k b x))
    exact accL_mem (i := i) (by simpa using h)
/-- The rows, from the end. -/
def SeD.restP (d : SeD) (w : WayD) : Nat → List Int
  | 0 => zer
  | r + 1 => nextP d.jump (w.lo d (w.n - (r + 1))) (w.hi d (w.n - (r + 1))) (d.restP w r)
def Pos (js : List Int) : Prop := ∃ (k : Nat) (u : Int), js[k]? = some u ∧ 0 < u
theorem Pos.seed {js : List Int} (h : Pos js) : seedP js = 0 := by
  obtain ⟨k, u, hk, hu⟩ := h
  unfold seedP
  rw [decide_eq_false]
  rintro rfl
  have := zer_bd u (List.mem_of_getElem? hk)
  omega
theorem pos_next {J lo hi : Int} {js : List Int} (hb : js = zer ∨ Pos js) (h0 : 0 ≤ lo) (h1 : lo ≤ hi) (h2 : hi ≤ 60) : Pos (nextP J lo hi js) := by
  refine ⟨lo.toNat, _, nextP_get (by omega), ?_⟩
  rw [if_pos (by omega)]
  rcases hb with rfl | ⟨k, u, hk, hu⟩
  · have h : seedP zer = 1 := by unfold seedP; rw [decide_eq_true rfl]
    rw [h]
    have : (1 : Int) ≤ accL J lo.toNat zer 0 1 := accL_ge
    omega
  · have := accL_mem (J := J) (k := lo.toNat) (b := 0) (acc := seedP js) hk
    omega
theorem restP_ok {d : SeD} {w : WayD} (hok : d.Ok) (hwk : w.Ok d) : ∀ r, r ≤ w.n → JsB (d.restP w r) r ∧ (r = 0 ∨ Pos (d.restP w r))
  | 0, _ => ⟨JsB.zer, .inl rfl⟩
  | r + 1, h => by
    obtain ⟨h1, h2⟩ := restP_ok hok hwk r (by omega)
    have hb := WayD.bd hwk hok (i := w.n - (r + 1)) (by omega)
    refine ⟨by rw [show ((r + 1 : Nat) : Int) = (r : Int) + 1 from by omega]; exact h1.next (by omega), .inr ?_⟩
    exact pos_next (by rcases h2 with rfl | h2; exact .inl rfl; exact .inr h2) hb.1.1 hb.2.2 hb.2.1.2
/-- What a warmth adds to the jumps of the rest. -/
def hereP (J : Int) (prev : Option Int) (w : Nat) (n : Int) : Int := match prev with | none => n | some p => match jmpP J p w with | true => n + 1 | false => n
/-- There is a warmth to go on with. -/
def Next (J : Int) (row : List Int) (prev : Option Int) (left : Int) : Prop := ∃ (i : Nat) (n : Int), row[i]? = some n ∧ 0 < n ∧ hereP J prev i n = left
theorem next_first {J : Int} {row : List Int} (h : Pos row) : Next J row none (maxP row) := by
  obtain ⟨k, u, hk, hu⟩ := h
  have hm := maxP_bd (js := row) (by cases row with | nil => simp at hk | cons _ _ => simp)
  obtain ⟨i, hi⟩ := List.mem_iff_getElem?.1 hm.2
  have := hm.1 u (List.mem_of_getElem? hk)
  exact ⟨i, _, hi, by omega, rfl⟩
theorem next_more {J lo hi : Int} {row : List Int} (h : Pos row) {w : Nat} {n : Int} (hn : (nextP J lo hi row)[w]? = some n) (h0 : 0 < n) : Next J row (some w) n := by
  have hw : w < 61 := by
    have := List.getElem?_eq_some_iff.1 hn
    simpa [nextP_len] using this.1
  rw [nextP_get hw] at hn
  cases hn
  split at h0
  · rename_i hc
    rw [if_pos hc]
    rcases accL_or (J := J) (k := w) (l := row) (b := 0) (acc := seedP row) with e | ⟨i, n, hi, e⟩
    · rw [e, h.seed] at h0; omega
    · rw [e] at h0 ⊢
      rw [Int.zero_add] at h0 ⊢
      refine ⟨i, n, hi, ?_, ?_⟩
      · unfold upP at h0; revert h0; cases hx : decide (0 < n) <;> simp at hx ⊢ <;> omega
      · have h1 : 0 < n := by unfold upP at h0; revert h0; cases hx : decide (0 < n) <;> simp at hx ⊢ <;> omega
        unfold hereP upP
        rw [decide_eq_true h1, Bool.true_and, jmpP_comm J i w] <;> rfl
  · omega
end Go.Proofs.Ytjkfleibnojjaaa.T
end
