/- Part 12 of 21 of the proof that the law TopAnewScent returns true and leaves its argument as it read before, for every input that the bounded statement admits (what it reads is of bulk at most 1048576). -/
import Derived.Test.YtclgfagkaklnnaaGreatP05
import Derived.Test.YtclgfagkaklnnaaGreatP06
import Derived.Test.YtclgfagkaklnnaaGreatP08
import Derived.Test.YtclgfagkaklnnaaGreatP09
import Derived.Test.YtclgfagkaklnnaaGreatP10
import Derived.Test.YtclgfagkaklnnaaGreatP11
section
open Go Go.Proofs Go.Proofs.YtclgfagkaklnnaaGreat
set_option maxRecDepth 100000
namespace Go.Proofs.YtclgfagkaklnnaaGreat.C
theorem heapT : HeapT Tryz.prog 3 9 28 33 35 := ⟨Tryz.underlying28, Tryz.underlying33, sz3, sz9, ze3, ze9, by3, by9, ap28, ap33, sz28, sz33, ag28, ag33, ag3, ag9, Tryz.underlying9, fa35_0, fa35_1⟩
theorem put8 : PutOk Tryz.prog 8 [.i] false := putInt_ok heapT fun h => c8 h
theorem put9 : PutOk Tryz.prog 9 [.i] false := putInt_ok heapT fun h => c9 h
theorem put28 : PutOk Tryz.prog 28 [.i, .i] true := putS_ok (fs := [(59, 0, 3, 8), (59, 1, 3, 8)]) (.cons (t := [.i]) (a := false) fz59_0 ag3 sz3 (by decide) put8 (.cons (t := [.i]) (a := false) fz59_1 ag3 sz3 (by decide) put8 (.nil))) fun h => c28 h
theorem put31 : PutOk Tryz.prog 31 [.sl [.i, .i]] false := by
  intro F h B m l k K Kp hp hw hB hK
  apply c31
  unfold s31
  refine puts_ok heapT Tryz.underlying63 sz59 ag59 (by decide) rfl put28 (fun h => c63 h) hp hw hB fun u m' hp' => ?_
  simp only [leave0, RK_ret]
  exact hK _ _ hp'
theorem put13 : PutOk Tryz.prog 13 [.sl [.sl [.i, .i]]] false := by
  intro F h B m l k K Kp hp hw hB hK
  apply c13
  unfold s13
  refine puts_ok heapT Tryz.underlying45 sz63 ag63 (by decide) rfl put31 (fun h => c53 h) hp hw hB fun u m' hp' => ?_
  simp only [leave0, RK_ret]
  exact hK _ _ hp'
theorem put18 : PutOk Tryz.prog 18 [.sl [.i]] false := by
  intro F h B m l k K Kp hp hw hB hK
  apply c18
  unfold s18
  refine puts_ok heapT Tryz.underlying28 sz3 ag3 (by decide) rfl put8 (fun h => c58 h) hp hw hB fun u m' hp' => ?_
  simp only [leave0, RK_ret]
  exact hK _ _ hp'
theorem put104 : PutOk Tryz.prog 104 [.s] false := putText_ok heapT fun h => c104 h
theorem put97 : PutOk Tryz.prog 97 [.s, .sl [.i, .i]] true := putS_ok (fs := [(85, 0, 9, 104), (85, 1, 63, 31)]) (.cons (t := [.s]) (a := false) fz85_0 ag9 sz9 (by decide) put104 (.cons (t := [.sl [.i, .i]]) (a := false) fz85_1 ag63 sz63 (by decide) put31 (.nil))) fun h => c97 h
theorem put77 : PutOk Tryz.prog 77 [.sl [.s, .sl [.i, .i]]] false := by
  intro F h B m l k K Kp hp hw hB hK
  apply c77
  unfold s77
  refine puts_ok heapT Tryz.underlying23 sz85 ag85 (by decide) rfl put97 (fun h => c96 h) hp hw hB fun u m' hp' => ?_
  simp only [leave0, RK_ret]
  exact hK _ _ hp'
theorem put95 : PutOk Tryz.prog 95 [.s, .i, .i, .i, .i] true := putS_ok (fs := [(80, 0, 9, 104), (80, 1, 3, 8), (80, 2, 3, 8), (80, 3, 3, 8), (80, 4, 3, 8)]) (.cons (t := [.s]) (a := false) fz80_0 ag9 sz9 (by decide) put104 (.cons (t := [.i]) (a := false) fz80_1 ag3 sz3 (by decide) put8 (.cons (t := [.i]) (a := false) fz80_2 ag3 sz3 (by decide) put8 (.cons (t := [.i]) (a := false) fz80_3 ag3 sz3 (by decide) put8 (.cons (t := [.i]) (a := false) fz80_4 ag3 sz3 (by decide) put8 (.nil)))))) fun h => c95 h
theorem put76 : PutOk Tryz.prog 76 [.sl [.s, .i, .i, .i, .i]] false := by
  intro F h B m l k K Kp hp hw hB hK
  apply c76
  unfold s76
  refine puts_ok heapT Tryz.underlying22 sz80 ag80 (by decide) rfl put95 (fun h => c94 h) hp hw hB fun u m' hp' => ?_
  simp only [leave0, RK_ret]
  exact hK _ _ hp'
theorem put38 : PutOk Tryz.prog 38 [.sl [.s, .i, .i, .i, .i], .sl [.s, .sl [.i, .i]]] true := putS_ok (fs := [(25, 0, 22, 76), (25, 1, 23, 77)]) (.cons (t := [.sl [.s, .i, .i, .i, .i]]) (a := false) fz25_0 ag22 sz22 (by decide) put76 (.cons (t := [.sl [.s, .sl [.i, .i]]]) (a := false) fz25_1 ag23 sz23 (by decide) put77 (.nil))) fun h => c38 h
theorem put79 : PutOk Tryz.prog 79 [.sl [.i], .sl [.i], .sl [.i, .i]] true := putS_ok (fs := [(97, 0, 28, 18), (97, 1, 28, 18), (97, 2, 63, 31)]) (.cons (t := [.sl [.i]]) (a := false) fz97_0 ag28 sz28 (by decide) put18 (.cons (t := [.sl [.i]]) (a := false) fz97_1 ag28 sz28 (by decide) put18 (.cons (t := [.sl [.i, .i]]) (a := false) fz97_2 ag63 sz63 (by decide) put31 (.nil)))) fun h => c79 h
theorem put39 : PutOk Tryz.prog 39 [.sl [.sl [.i], .sl [.i], .sl [.i, .i]]] false := by
  intro F h B m l k K Kp hp hw hB hK
  apply c39
  unfold s39
  refine puts_ok heapT Tryz.underlying26 sz97 ag97 (by decide) rfl put79 (fun h => c78 h) hp hw hB fun u m' hp' => ?_
  simp only [leave0, RK_ret]
  exact hK _ _ hp'
theorem put80 : PutOk Tryz.prog 80 [.sl [.sl [.i]]] false := by
  intro F h B m l k K Kp hp hw hB hK
  apply c80
  unfold s80
  refine puts_ok heapT Tryz.underlying27 sz28 ag28 (by decide) rfl put18 (fun h => c98 h) hp hw hB fun u m' hp' => ?_
  simp only [leave0, RK_ret]
  exact hK _ _ hp'
theorem put40 : PutOk Tryz.prog 40 [.sl [.sl [.i]], .sl [.sl [.i]], .sl [.i]] true := putS_ok (fs := [(30, 0, 27, 80), (30, 1, 27, 80), (30, 2, 28, 18)]) (.cons (t := [.sl [.sl [.i]]]) (a := false) fz30_0 ag27 sz27 (by decide) put80 (.cons (t := [.sl [.sl [.i]]]) (a := false) fz30_1 ag27 sz27 (by decide) put80 (.cons (t := [.sl [.i]]) (a := false) fz30_2 ag28 sz28 (by decide) put18 (.nil)))) fun h => c40 h
theorem all4 {F : Keep} {h B : Nat} {m : CM} {l : List Value} {k : Nat} {K : Value → CM → Prop} {Kp : List PanicEntry → CM → Prop} (hp : Hp F h B m) (hw : WTL F [.sl [.s, .i, .i, .i, .i], .sl [.s, .sl [.i, .i]], .sl [.sl [.i], .sl [.i], .sl [.i, .i]], .sl [.sl [.i]], .sl [.sl [.i]], .sl [.i], .i, .i, .i, .i] k l) (hB : B + k ≤ lim) (hK : ∀ u m', Hp F h (B + k) m' → K u m') :
    callw Tryz.prog 4 [.agg ⟨l⟩, .pointer (some ⟨h, 0, none⟩)] m K Kp :=
  all_ok (fs := [(32, 0, 25, 38), (32, 1, 26, 39), (32, 2, 30, 40), (32, 3, 3, 8), (32, 4, 3, 8), (32, 5, 3, 8), (32, 6, 3, 8)]) (.cons (t := [.sl [.s, .i, .i, .i, .i], .sl [.s, .sl [.i, .i]]]) (a := true) fz32_0 ag25 sz25 (by decide) put38 (.cons (t := [.sl [.sl [.i], .sl [.i], .sl [.i, .i]]]) (a := false) fz32_1 ag26 sz26 (by decide) put39 (.cons (t := [.sl [.sl [.i]], .sl [.sl [.i]], .sl [.i]]) (a := true) fz32_2 ag30 sz30 (by decide) put40 (.cons (t := [.i]) (a := false) fz32_3 ag3 sz3 (by decide) put8 (.cons (t := [.i]) (a := false) fz32_4 ag3 sz3 (by decide) put8 (.cons (t := [.i]) (a := false) fz32_5 ag3 sz3 (by decide) put8 (.cons (t := [.i]) (a := false) fz32_6 ag3 sz3 (by decide) put8 (.nil)))))))) (fun h => c4 h) hp hw hB hK
end Go.Proofs.YtclgfagkaklnnaaGreat.C
end

section
open Go Go.Proofs Go.Proofs.YtclgfagkaklnnaaGreat
set_option maxRecDepth 100000
namespace Go.Proofs.YtclgfagkaklnnaaGreat.C
theorem out41 : OutOk Tryz.prog 41 := out_ok Tryz.underlying28 sz3 ag3 (fun h => c41 h) (fun h => c82 h) (fun h => c81 h) (fun h => c99 h)
theorem name47 : NameOk Tryz.prog 47 := name_ok Tryz.underlying9 (fun h => c47 h)
theorem out_1 {lo hi x : Int} {m : CM} {K : Value → CM → Prop} {Kp : List PanicEntry → CM → Prop} (h : ∀ b m', m.le m' → (b = false → lo ≤ x ∧ x ≤ hi) → K (.bool b) m') :
    vop (cbuildS Tryz.prog 28 1 [(0, .int .i64 x)] m) (fun t m1 => callw Tryz.prog 41 [.int .i64 lo, .int .i64 hi, t] m1 K Kp) :=
  outL Tryz.underlying28 sz3 ze3 out41 (xs := [x]) (k := 1) rfl (by decide) rfl fun b m' hle hb => h b m' hle fun e => hb e x (by simp)
theorem out_2 {lo hi x y : Int} {m : CM} {K : Value → CM → Prop} {Kp : List PanicEntry → CM → Prop} (h : ∀ b m', m.le m' → (b = false → (lo ≤ x ∧ x ≤ hi) ∧ lo ≤ y ∧ y ≤ hi) → K (.bool b) m') :
    vop (cbuildS Tryz.prog 28 2 [(0, .int .i64 x), (1, .int .i64 y)] m) (fun t m1 => callw Tryz.prog 41 [.int .i64 lo, .int .i64 hi, t] m1 K Kp) :=
  outL Tryz.underlying28 sz3 ze3 out41 (xs := [x, y]) (k := 2) rfl (by decide) rfl fun b m' hle hb => h b m' hle fun e => ⟨hb e x (by simp), hb e y (by simp)⟩
def SpRow (r : List Value) : Prop := ∃ a b, r = [.int .i64 a, .int .i64 b]
/-- ranges: of spans. -/
theorem ranges50 {m : CM} {v : Value} {n : Nat} {row : Nat → List Value} (hs : Sl 2 m v n row) (hn : n < 4611686018427387904) (hR : ∀ i, i < n → SpRow (row i)) {hi : Int} {K : Value → CM → Prop} {Kp : List PanicEntry → CM → Prop}
    (hK : ∀ m' e, m.le m' → (e = 0 → ∀ i, i < n → ∃ a b, row i = [.int .i64 a, .int .i64 b] ∧ 0 ≤ a ∧ a ≤ b ∧ b ≤ hi) → K (.int .i64 e) m') : callw Tryz.prog 50 [v, .int .i64 hi] m K Kp := by
  apply c50
  unfold s50
  refine box_of fun t3 m1 hle1 hb3 ho3 => ?_
  simp only [toL] at ho3
  refine c86 (con_ok (fun h => c101 h) Tryz.underlying63 sz59 ag59 (by decide) (hs.le hle1) hn (fun i b => b = false → ∃ x y, row i = [.int .i64 x, .int .i64 y] ∧ (0 ≤ x ∧ x ≤ hi) ∧ 0 ≤ y ∧ y ≤ hi) (fun i m' hi' hle => ?_) fun m2 b2 hle2 hf2 _ => ?_)
  · obtain ⟨x, y, hr⟩ := hR i hi'
    rw [hr]
    show callw Tryz.prog 87 ([] ++ [.agg ⟨[.int .i64 x, .int .i64 y]⟩] ++ [.pointer (some ⟨t3, 0, none⟩)]) m' _ _
    apply c87
    unfold s87
    refine box_of fun t2 m4 hle4 hb4 ho4 => ?_
    simp only [toL] at ho4
    rw [((ho3.le hle).le hle4).cel.z ag3 rfl]
    simp only [fz59_0, fz59_1, pop_some]
    rw [ho4.cel.z ag3 rfl]
    simp only [pop_some]
    rw [ho4.cel.z ag3 rfl]
    simp only [pop_some]
    refine out_2 fun b m5 hle5 hb => ?_
    rw [leave1, RK_ret]
    exact ⟨b, rfl, hle4.trans hle5, fun e => ⟨x, y, rfl, hb e⟩⟩
  · cases b2 with
    | true => rw [cnd_true, leave1, RK_ret]; exact hK _ _ (hle1.trans hle2) (fun h => absurd h (by decide))
    | false =>
    rw [cnd_false]
    have h2 := hf2 rfl
    refine c86 (con_ok (fun h => c101 h) Tryz.underlying63 sz59 ag59 (by decide) ((hs.le hle1).le hle2) hn (fun i b => b = false → ∃ x y, row i = [.int .i64 x, .int .i64 y] ∧ x ≤ y) (fun i m' hi' hle => ?_) fun m3 b3 hle3 hf3 _ => ?_)
    · obtain ⟨x, y, hr⟩ := hR i hi'
      rw [hr]
      show callw Tryz.prog 88 ([] ++ [.agg ⟨[.int .i64 x, .int .i64 y]⟩] ++ []) m' _ _
      apply c88
      unfold s88
      refine box_of fun t2 m4 hle4 hb4 ho4 => ?_
      simp only [toL] at ho4
      simp only [fz59_0, fz59_1, pop_some]
      rw [ho4.cel.z ag3 rfl]
      simp only [pop_some]
      rw [ho4.cel.z ag3 rfl]
      simp only [pop_some, cb_gtr]
      rw [leave1, RK_ret]
      exact ⟨_, rfl, hle4, fun e => ⟨x, y, rfl, by simpa using e⟩⟩
    · cases b3 with
      | true => rw [cnd_true, leave1, RK_ret]; exact hK _ _ ((hle1.trans hle2).trans hle3) (fun h => absurd h (by decide))
      | false =>
        rw [cnd_false, leave1, RK_ret]
        refine hK _ _ ((hle1.trans hle2).trans hle3) fun _ i hi' => ?_
        obtain ⟨x, y, hr, hb⟩ := h2 i hi' rfl
        obtain ⟨x', y', hr', hb'⟩ := hf3 rfl i hi' rfl
        rw [hr] at hr'
        simp only [List.cons.injEq, Value.int.injEq, true_and, and_true] at hr'
        exact ⟨x, y, hr, by omega, by omega, by omega⟩
end Go.Proofs.YtclgfagkaklnnaaGreat.C
end

section
open Go Go.Proofs Go.Proofs.YtclgfagkaklnnaaGreat
set_option maxRecDepth 100000
namespace Go.Proofs.YtclgfagkaklnnaaGreat.C
def ThRow (r : List Value) : Prop := ∃ s a b c d, r = [.string s, .int .i64 a, .int .i64 b, .int .i64 c, .int .i64 d]
theorem store_own {P : Program} {t : TypeId} {m : CM} {b e : Nat} {c : List Value} {v : Value} {K : Value → CM → Prop} (h : Own m b c e) (hs : szOf P t = some (toL v).length) (hl : (toL v).length = c.length) (h1 : (toL v).all one = true)
    (hk : ∀ m', m'.next = m.next → (∀ x, x ≠ b → m'.get x = m.get x) → Own m' b (toL v) e → K undef m') : sop (cstore P t (.pointer (some ⟨b, 0, none⟩)) v m) K := by
  refine h.store hs (by omega) h1 fun m' hn hx ho => ?_
  have hsp : splice c 0 (toL v) = toL v := by
    have hd : c.drop (toL v).length = [] := List.drop_eq_nil_of_le (by omega)
    simp [splice, hd]
  rw [hsp] at ho
  exact hk m' hn hx ho
theorem lda {P : Program} {t : TypeId} {b : Nat} {l : List Value} {m : CM} (h : Own m b l 0) (ha : aggB P t = some true) (hs : szOf P t = some l.length) : cload P t (.pointer (some ⟨b, 0, none⟩)) m = some (.agg ⟨l⟩) := by
  have := h.cel.za ha hs (j := 0) (by omega)
  simpa using this
theorem ldi {b : Nat} {l : List Value} {m : CM} {j : Nat} {n : Int} (h : Own m b l 0) (hj : l[j]? = some (.int .i64 n)) : cload Tryz.prog 3 (.pointer (some ⟨b, j, none⟩)) m = some (.int .i64 n) := h.cel.z ag3 hj
/-- thing. -/
theorem thing44 {m : CM} {v : Value} {n : Nat} {row : Nat → List Value} (hs : Sl 5 m v n row) (hn : n < 4611686018427387904) (hR : ∀ i, i < n → ThRow (row i)) {i : Nat} (hi : i < n) {K : Value → CM → Prop} {Kp : List PanicEntry → CM → Prop}
    (hK : ∀ m' e, m.le m' → K (.int .i64 e) m') : callw Tryz.prog 44 [v, .int .i64 i] m K Kp := by
  apply c44
  unfold s44
  obtain ⟨bx, ox, hia, hcel, hlen⟩ := hs.at Tryz.underlying22 sz80 (i := i) (by omega) (by omega)
  simp only [Int.toNat_natCast] at hcel hlen
  obtain ⟨s, a, b, c, d, hr⟩ := hR i hi
  rw [hia, pop_some, hcel.elv ag80 sz80 hlen (by decide), pop_some]
  rw [hr]
  refine alw_of ze80 fun b5 m1 hle1 hb5 ho5 => store_own ho5 (by simp [toL, elv, sz80]) (by simp [toL, elv]) rfl fun m2 hn2 hx2 ho5 => ?_
  simp only [toL, elv] at ho5
  have hle2 := le_of_put hle1 hb5 hn2 hx2
  rw [fz80_1, pop_some, ldi ho5 rfl, pop_some, cb_eql, pop_some]
  have hj : ∀ (x y : Int), j44_0 (RK K Kp) (.pointer (some ⟨b5, 0, none⟩)) v (.int .i64 i) (.int .i64 x) (.int .i64 y) m2 := by
    intro x y
    unfold j44_0
    rw [fz80_0, pop_some, ho5.cel.z ag9 rfl, pop_some]
    refine name47 m2 s _ _ fun m3 t3 hle3 => ?_
    rw [cun_not, pop_some]
    have hle := hle2.trans hle3
    replace ho5 := ho5.le hle3
    cases t3 with
    | false => rw [show (!false) = true from rfl, cnd_true, leave1, RK_ret]; exact hK _ _ hle
    | true =>
    rw [show (!true) = false from rfl, cnd_false]
    obtain ⟨v', hv', hs'⟩ := (hs.le hle).pre Tryz.underlying22 sz80 (by decide) (i := i) (by omega) (by omega) (by omega) (.refl m3)
    rw [hv', pop_some]
    simp only [Int.toNat_natCast] at hs'
    refine c83 (con_ok (fun h => c100 h) Tryz.underlying22 sz80 ag80 (by decide) hs' (by omega) (fun _ _ => True) (fun k m' hk hle' => ?_) fun m4 t4 hle4 _ _ => ?_)
    · obtain ⟨s', a', b', c', d', hr'⟩ := hR k (by omega)
      rw [hr']
      show callw Tryz.prog 84 ([] ++ [_] ++ [.pointer (some ⟨b5, 0, none⟩)]) m' _ _
      apply c84
      unfold s84
      refine box_of fun t2 m5 hle5 hb2 ho2 => ?_
      simp only [toL, elv] at ho2
      simp only [fz80_0, pop_some]
      rw [ho2.cel.z ag9 rfl]
      simp only [pop_some]
      rw [((ho5.le hle').le hle5).cel.z ag9 rfl]
      simp only [pop_some, cb_eql_str]
      rw [leave1, RK_ret]
      exact ⟨_, rfl, hle5, trivial⟩
    · replace hle := hle.trans hle4
      replace ho5 := ho5.le hle4
      cases t4 with
      | true => rw [cnd_true, leave1, RK_ret]; exact hK _ _ hle
      | false =>
      rw [cnd_false, fz80_1, pop_some, ldi ho5 rfl, pop_some]
      refine out_1 fun t5 m5 hle5 _ => ?_
      replace hle := hle.trans hle5
      replace ho5 := ho5.le hle5
      cases t5 with
      | true => rw [cnd_true, leave1, RK_ret]; exact hK _ _ hle
      | false =>
      rw [cnd_false, fz80_2, pop_some, ldi ho5 rfl, pop_some]
      refine out_1 fun t6 m6 hle6 _ => ?_
      replace hle := hle.trans hle6
      replace ho5 := ho5.le hle6
      have hend : ∀ (t : Bool) (m7 : CM), m.le m7 → Own m7 b5 [.string s, .int .i64 a, .int .i64 b, .int .i64 c, .int .i64 d] 0 → gop (gb (.bool t) false) (fun K => K (.int .i64 y) m7) (fun t47 m => gop (gb (.bool t) false) (fun K => pop (cfa Tryz.prog 80 4 (.pointer (some ⟨b5, 0, none⟩))) m K) (fun t48 m => gop (gb (.bool t) false) (fun K => pop (cload Tryz.prog 3 t48 m) m K) (fun t49 m => gop (gb (.bool t) false) (fun K => vop (cbuildS Tryz.prog 28 1 [(0, t49)] m) K) (fun t50 m => gop (gb (.bool t) false) (fun K => callw Tryz.prog 41 [.int .i64 0, t47, t50] m K (fun ch m => RK K Kp (.pan ch) m)) (fun t51 m => pop (cpick (.bool t) (.bool true) t51) m (fun t52 m => cnd t52 (leaveV Tryz.prog [.v (.int .i64 7)] [] .ret m (RK K Kp)) (leaveV Tryz.prog [.v (.int .i64 0)] [] .ret m (RK K Kp)))) m) m) m) m) m7 := by
        intro t m7 hle7 ho7
        cases t with
        | true =>
          simp only [gb_bool, Bool.true_beq, gop_false, cpick_bool, if_true, pop_some, cnd_true]
          rw [leave1, RK_ret]; exact hK _ _ hle7
        | false =>
          simp only [gb_bool, beq_self_eq_true, gop_true, cpick_bool, Bool.false_eq_true, if_false, pop_some]
          rw [fz80_4, pop_some, ldi ho7 rfl, pop_some]
          refine out_1 fun t8 m8 hle8 _ => ?_
          cases t8 with
          | true => rw [cnd_true, leave1, RK_ret]; exact hK _ _ (hle7.trans hle8)
          | false => rw [cnd_false, leave1, RK_ret]; exact hK _ _ (hle7.trans hle8)
      cases t6 with
      | true =>
        simp only [gb_bool, Bool.true_beq, gop_false, cpick_bool, if_true, pop_some]
        rw [cnd_true, leave1, RK_ret]
        exact hK _ _ hle
      | false =>
        simp only [gb_bool, beq_self_eq_true, gop_true, cpick_bool, Bool.false_eq_true, if_false, pop_some]
        rw [fz80_3, pop_some, ldi ho5 rfl, pop_some]
        refine out_1 fun t7 m7 hle7 _ => ?_
        exact hend t7 m7 (hle.trans hle7) (ho5.le hle7)
  cases (a == 0) with
  | true => rw [cnd_true]; exact hj 100 0
  | false =>
  rw [cnd_false, cb_eql, pop_some]
  cases (a == 1) with
  | true => rw [cnd_true]; exact hj 0 1000
  | false => rw [cnd_false]; exact hj 0 0
end Go.Proofs.YtclgfagkaklnnaaGreat.C
end

section
open Go Go.Proofs Go.Proofs.YtclgfagkaklnnaaGreat
set_option maxRecDepth 100000
namespace Go.Proofs.YtclgfagkaklnnaaGreat.C
/-! ### A shop -/
structure ShopD where
  vt : Value
  nt : Nat
  rt : Nat → List Value
  vl : Value
  nl : Nat
  ls : Nat → ByteArray
  lv : Nat → Value
  ln : Nat → Nat
  lr : Nat → Nat → List Value
def ShopD.cells (d : ShopD) : List Value := [d.vt, d.vl]
structure ShopD.In (d : ShopD) (m : CM) : Prop where
  st : Sl 5 m d.vt d.nt d.rt
  sl : Sl 2 m d.vl d.nl (fun i => [.string (d.ls i), d.lv i])
  sp : ∀ i, i < d.nl → Sl 2 m (d.lv i) (d.ln i) (d.lr i)
  rt0 : ∀ i, i < d.nt → ThRow (d.rt i)
  lr0 : ∀ i, i < d.nl → ∀ j, j < d.ln i → SpRow (d.lr i j)
  nt0 : d.nt < 4611686018427387904
  nl0 : d.nl < 4611686018427387904
  ln0 : ∀ i, i < d.nl → d.ln i < 4611686018427387904
theorem ShopD.In.le {d : ShopD} {m m' : CM} (h : d.In m) (k : m.le m') : d.In m' := ⟨h.st.le k, h.sl.le k, fun i hi => (h.sp i hi).le k, h.rt0, h.lr0, h.nt0, h.nl0, h.ln0⟩
/-- Spans within 0 and a number, in order. -/
def SpOk (hi : Int) (n : Nat) (row : Nat → List Value) : Prop := ∀ j, j < n → ∃ a b, row j = [.int .i64 a, .int .i64 b] ∧ 0 ≤ a ∧ a ≤ b ∧ b ≤ hi
structure ShopD.Ok (d : ShopD) : Prop where
  nt1 : 1 ≤ d.nt ∧ d.nt ≤ 5
  nl1 : 1 ≤ d.nl ∧ d.nl ≤ 6
  lot : ∀ i, i < d.nl → d.ln i = d.nt ∧ SpOk 1000000 (d.ln i) (d.lr i)
theorem Sl.one {e n : Nat} {m : CM} {v : Value} {row : Nat → List Value} (h : Sl e m v n row) : one v = true := by
  rcases h with ⟨rfl, _⟩ | ⟨b, o, q, c, own, rfl, _⟩ | ⟨b, rfl, _⟩ <;> rfl
theorem ThRow.one {r : List Value} (h : ThRow r) : r.all one = true := by obtain ⟨s, a, b, c, d, rfl⟩ := h; rfl
theorem check43 {d : ShopD} {m : CM} (hd : d.In m) {t1 : Nat} (h1 : Own m t1 d.cells 0) {i : Nat} (hi : i < d.nt) {x : Value} {K : Value → CM → Prop} {Kp : List PanicEntry → CM → Prop} (hK : ∀ m' e, m.le m' → K (.int .i64 e) m') :
    callw Tryz.prog 43 [.int .i64 i, x, .pointer (some ⟨t1, 0, none⟩)] m K Kp := by
  apply c43
  unfold s43
  refine box_of fun t4 m1 hle1 hb4 ho4 => ?_
  rw [fz25_0, pop_some, (h1.le hle1).cel.z ag22 (j := 0) rfl, pop_some]
  refine thing44 (hd.le hle1).st hd.nt0 hd.rt0 hi fun m2 e hle2 => ?_
  rw [leave1, RK_ret]
  exact hK _ _ (hle1.trans hle2)
theorem check46 {d : ShopD} {m : CM} (hd : d.In m) {t1 : Nat} (h1 : Own m t1 d.cells 0) {i : Nat} (hi : i < d.nl) {K : Value → CM → Prop} {Kp : List PanicEntry → CM → Prop} (hK : ∀ m' e, m.le m' → (e = 0 → d.ln i = d.nt ∧ SpOk 1000000 (d.ln i) (d.lr i)) → K (.int .i64 e) m') :
    callw Tryz.prog 46 [.int .i64 i, .agg ⟨[.string (d.ls i), d.lv i]⟩, .pointer (some ⟨t1, 0, none⟩)] m K Kp := by
  apply c46
  unfold s46
  have hnl := hd.nl0
  refine box_of fun t4 m1 hle1 hb4 ho4 => ?_
  simp only [toL] at ho4
  rw [fz85_0, pop_some, ho4.cel.z ag9 rfl, pop_some]
  refine name47 m1 _ _ _ fun m2 b2 hle2 => ?_
  rw [cun_not, pop_some]
  have hle := hle1.trans hle2
  replace ho4 := ho4.le hle2
  cases b2 with
  | false => rw [show (!false) = true from rfl, cnd_true, leave1, RK_ret]; exact hK _ _ hle (fun h => absurd h (by decide))
  | true =>
  rw [show (!true) = false from rfl, cnd_false, fz25_1, pop_some, (h1.le hle).cel.z ag23 (j := 1) rfl, pop_some]
  obtain ⟨v', hv', hs'⟩ := ((hd.le hle).sl).pre Tryz.underlying23 sz85 (by decide) (i := i) (by omega) (by omega) (by omega) (.refl m2)
  rw [hv', pop_some]
  simp only [Int.toNat_natCast] at hs'
  refine c48 (con_ok (fun h => c85 h) Tryz.underlying23 sz85 ag85 (by decide) hs' (by omega) (fun _ _ => True) (fun k m' hk hle' => ?_) fun m4 t4' hle4 _ _ => ?_)
  · show callw Tryz.prog 49 ([] ++ [.agg ⟨[.string (d.ls k), d.lv k]⟩] ++ [.pointer (some ⟨t4, 0, none⟩)]) m' _ _
    apply c49
    unfold s49
    refine box_of fun t2 m5 hle5 hb2 ho2 => ?_
    simp only [toL] at ho2
    simp only [fz85_0, pop_some]
    rw [ho2.cel.z ag9 rfl]
    simp only [pop_some]
    rw [((ho4.le hle').le hle5).cel.z ag9 rfl]
    simp only [pop_some, cb_eql_str]
    rw [leave1, RK_ret]
    exact ⟨_, rfl, hle5, trivial⟩
  · replace hle := hle.trans hle4
    replace ho4 := ho4.le hle4
    cases t4' with
    | true => rw [cnd_true, leave1, RK_ret]; exact hK _ _ hle (fun h => absurd h (by decide))
    | false =>
    have hsp := (hd.le hle).sp i hi
    rw [cnd_false, fz85_1, pop_some, ho4.cel.z ag63 (j := 1) rfl, pop_some, hsp.len Tryz.underlying63, pop_some, fz25_0, pop_some, (h1.le hle).cel.z ag22 (j := 0) rfl, pop_some, (hd.le hle).st.len Tryz.underlying22, pop_some, cb_neq, pop_some]
    cases hne : ((d.ln i : Int) != (d.nt : Int)) with
    | true => rw [cnd_true, leave1, RK_ret]; exact hK _ _ hle (fun h => absurd h (by decide))
    | false =>
      have he : d.ln i = d.nt := by have : (d.ln i : Int) = d.nt := by simpa using hne
                                    omega
      rw [cnd_false, pop_some, ho4.cel.z ag63 (j := 1) rfl, pop_some]
      refine ranges50 hsp (hd.ln0 i hi) (hd.lr0 i hi) fun m5 e hle5 h5 => ?_
      rw [leave1, RK_ret]
      exact hK _ _ (hle.trans hle5) fun h0 => ⟨he, h5 h0⟩
theorem row2_one {s : ByteArray} {v : Value} (h : one v = true) : ([.string s, v] : List Value).all one = true := by
  show (one (.string s) && (one v && true)) = true
  rw [h]; rfl
/-- Check. -/
theorem check7 {d : ShopD} {m : CM} (hd : d.In m) {K : Value → CM → Prop} {Kp : List PanicEntry → CM → Prop} (hK : ∀ (p a e : Int) m', m.le m' → (e = 0 → d.Ok) → K (.tuple ⟨[.int .i64 p, .int .i64 a, .int .i64 e]⟩) m') :
    callw Tryz.prog 7 [.agg ⟨d.cells⟩] m K Kp := by
  apply c7
  unfold s7
  refine box_of fun t1 m1 hle1 hb1 ho1 => ?_
  replace ho1 : Own m1 t1 d.cells 0 := ho1
  rw [fz25_0, pop_some, ho1.cel.z ag22 (j := 0) rfl, pop_some, (hd.le hle1).st.len Tryz.underlying22, pop_some]
  refine out_1 fun b2 m2 hle2 h2 => ?_
  have hle := hle1.trans hle2
  replace ho1 := ho1.le hle2
  cases b2 with
  | true =>
    simp only [gb_bool, Bool.true_beq, gop_false, cpick_bool, if_true, pop_some, cnd_true]
    rw [leave3, RK_ret]; exact hK _ _ _ _ hle (fun h => absurd h (by decide))
  | false =>
  simp only [gb_bool, beq_self_eq_true, gop_true, cpick_bool, Bool.false_eq_true, if_false, pop_some]
  rw [fz25_1, pop_some, ho1.cel.z ag23 (j := 1) rfl, pop_some, (hd.le hle).sl.len Tryz.underlying23, pop_some]
  refine out_1 fun b3 m3 hle3 h3 => ?_
  replace hle := hle.trans hle3
  replace ho1 := ho1.le hle3
  cases b3 with
  | true => rw [cnd_true, leave3, RK_ret]; exact hK _ _ _ _ hle (fun h => absurd h (by decide))
  | false =>
  have h2' := h2 rfl
  have h3' := h3 rfl
  rw [cnd_false, ho1.cel.z ag22 (j := 0) rfl, pop_some]
  refine first_ok (fun h => c42 h) Tryz.underlying22 sz80 ag80 (by decide) ze80 rfl hd.nt0 (row := d.rt) (Inv := fun _ m' => m3.le m') (J := fun _ m' => m3.le m') (fun i hi => (hd.rt0 i hi).one) (fun i m' h => (hd.le hle).st.le h) (fun i m' m2 h k => h.trans k)
    (fun i m' K Kp hi hm hk => ?_) (.refl m3) fun m4 x e g0 g1 => ?_
  · show callw Tryz.prog 43 ([] ++ [.int .i64 i, _] ++ [.pointer (some ⟨t1, 0, none⟩)]) m' _ _
    exact check43 (hd.le (hle.trans hm)) (ho1.le hm) hi fun m2 e h => hk m2 e (fun _ => hm.trans h) (fun _ => hm.trans h)
  · have hle4 : m3.le m4 := by
      by_cases he : e = 0
      · exact g0 he
      · exact g1 he
    replace hle := hle.trans hle4
    replace ho1 := ho1.le hle4
    simp only [cext, List.getElem?_cons_zero, List.getElem?_cons_succ, pop_some, cb_neq]
    cases he : (e != 0) with
    | true => rw [cnd_true, leave3, RK_ret]; exact hK _ _ _ _ hle (fun h => by simp [h] at he)
    | false =>
    rw [cnd_false, ho1.cel.z ag23 (j := 1) rfl, pop_some]
    refine first_ok (fun h => c45 h) Tryz.underlying23 sz85 ag85 (by decide) ze85 rfl hd.nl0 (row := fun i => [.string (d.ls i), d.lv i]) (Inv := fun i m' => m4.le m' ∧ ∀ j, j < i → d.ln j = d.nt ∧ SpOk 1000000 (d.ln j) (d.lr j)) (J := fun _ m' => m4.le m') (fun i hi => row2_one (Sl.one (hd.sp i hi))) (fun i m' h => (hd.le hle).sl.le h.1) (fun i m' m2 h k => ⟨h.1.trans k, h.2⟩)
      (fun i m' K Kp hi hm hk => ?_) ⟨.refl m4, fun j hj => by omega⟩ fun m5 x5 e5 g0 g1 => ?_
    · show callw Tryz.prog 46 ([] ++ [.int .i64 i, _] ++ [.pointer (some ⟨t1, 0, none⟩)]) m' _ _
      refine check46 (hd.le (hle.trans hm.1)) (ho1.le hm.1) hi fun m2 e h h0 => hk m2 e (fun he => ⟨hm.1.trans h, fun j hj => ?_⟩) (fun _ => hm.1.trans h)
      by_cases hj' : j = i
      · subst hj'; exact h0 he
      · exact hm.2 j (by omega)
    · have hle5 : m4.le m5 := by
        by_cases he : e5 = 0
        · exact (g0 he).1
        · exact g1 he
      simp only [List.getElem?_cons_zero, List.getElem?_cons_succ, pop_some, cb_neq]
      cases he5 : (e5 != 0) with
      | true => rw [cnd_true, leave3, RK_ret]; exact hK _ _ _ _ (hle.trans hle5) (fun h => by simp [h] at he5)
      | false =>
        have he0 : e5 = 0 := by simpa using he5
        rw [cnd_false, leave3, RK_ret]
        exact hK _ _ _ _ (hle.trans hle5) fun _ => ⟨by omega, by omega, fun i hi => (g0 he0).2 i hi⟩
end Go.Proofs.YtclgfagkaklnnaaGreat.C
end

section
open Go Go.Proofs Go.Proofs.YtclgfagkaklnnaaGreat
set_option maxRecDepth 100000
namespace Go.Proofs.YtclgfagkaklnnaaGreat.C
/-! ### A batch that is looked at -/
theorem cia99_0 (b o : Nat) : cia Tryz.prog 99 (.pointer (some ⟨b, o, none⟩)) (.int .i64 0) = some (.pointer (some ⟨b, o, none⟩)) := by kernel_rfl
theorem cia99_1 (b o : Nat) : cia Tryz.prog 99 (.pointer (some ⟨b, o, none⟩)) (.int .i64 1) = some (.pointer (some ⟨b, o + 2, none⟩)) := by kernel_rfl
theorem cia99_2 (b o : Nat) : cia Tryz.prog 99 (.pointer (some ⟨b, o, none⟩)) (.int .i64 2) = some (.pointer (some ⟨b, o + 4, none⟩)) := by kernel_rfl
theorem cia99_3 (b o : Nat) : cia Tryz.prog 99 (.pointer (some ⟨b, o, none⟩)) (.int .i64 3) = some (.pointer (some ⟨b, o + 6, none⟩)) := by kernel_rfl
theorem cia99_4 (b o : Nat) : cia Tryz.prog 99 (.pointer (some ⟨b, o, none⟩)) (.int .i64 4) = some (.pointer (some ⟨b, o + 8, none⟩)) := by kernel_rfl
theorem cia99 (b o : Nat) {i : Nat} (hi : i < 5) : cia Tryz.prog 99 (.pointer (some ⟨b, o, none⟩)) (.int .i64 i) = some (.pointer (some ⟨b, o + i * 2, none⟩)) := by
  have : i = 0 ∨ i = 1 ∨ i = 2 ∨ i = 3 ∨ i = 4 := by omega
  rcases this with rfl | rfl | rfl | rfl | rfl
  · exact cia99_0 b o
  · exact cia99_1 b o
  · exact cia99_2 b o
  · exact cia99_3 b o
  · exact cia99_4 b o
/-- All is kept but the block b. -/
def KeepX (m : CM) (b : Nat) (m' : CM) : Prop := m.next ≤ m'.next ∧ ∀ x, x < m.next → x ≠ b → m'.get x = m.get x
theorem KeepX.refl (m : CM) (b : Nat) : KeepX m b m := ⟨Nat.le_refl _, fun _ _ _ => rfl⟩
theorem KeepX.le {m m1 m2 : CM} {b : Nat} (h : KeepX m b m1) (k : m1.le m2) : KeepX m b m2 := ⟨Nat.le_trans h.1 k.1, fun x hx hne => by rw [k.2 x (Nat.lt_of_lt_of_le hx h.1)]; exact h.2 x hx hne⟩
theorem KeepX.trans {m m1 m2 : CM} {b : Nat} (h : KeepX m b m1) (k : KeepX m1 b m2) : KeepX m b m2 := ⟨Nat.le_trans h.1 k.1, fun x hx hne => by rw [k.2 x (Nat.lt_of_lt_of_le hx h.1) hne]; exact h.2 x hx hne⟩
theorem KeepX.put {m m1 m2 : CM} {b : Nat} (h : KeepX m b m1) (hn : m2.next = m1.next) (hx : ∀ x, x ≠ b → m2.get x = m1.get x) : KeepX m b m2 := ⟨by rw [hn]; exact h.1, fun x hl hne => by rw [hx x hne]; exact h.2 x hl hne⟩
/-- The cells of a batch. -/
structure BatD where
  vg : Value
  vb : Value
  va : Value
  w : Int
  t : Int
  mi : List Int
  pa : List Int
def ints (l : List Int) : List Value := l.map (.int .i64)
def BatD.cells (x : BatD) : List Value := [x.vg, x.vb, x.va, .int .i64 x.w, .int .i64 x.t] ++ (ints x.mi ++ ints x.pa)
structure BatD.Sz (x : BatD) : Prop where
  mi : x.mi.length = 10
  pa : x.pa.length = 10
theorem ints_len (l : List Int) : (ints l).length = l.length := by simp [ints]
theorem BatD.len {x : BatD} (h : x.Sz) : x.cells.length = 25 := by simp [BatD.cells, ints_len, h.mi, h.pa]
theorem BatD.getM {x : BatD} (h : x.Sz) {j : Nat} (hj : j < 10) : x.cells[5 + j]? = some (.int .i64 (x.mi.getD j 0)) := by
  have hm := h.mi
  have h1 : ([x.vg, x.vb, x.va, .int .i64 x.w, .int .i64 x.t] : List Value).length = 5 := rfl
  rw [BatD.cells, List.getElem?_append_right (by rw [h1]; omega), h1, Nat.add_sub_cancel_left, List.getElem?_append_left (by rw [ints_len]; omega), ints, List.getElem?_map, List.getElem?_eq_getElem (by omega), List.getD_eq_getElem?_getD, List.getElem?_eq_getElem (by omega)]
  rfl
theorem BatD.getP {x : BatD} (h : x.Sz) {j : Nat} (hj : j < 10) : x.cells[15 + j]? = some (.int .i64 (x.pa.getD j 0)) := by
  have hm := h.mi
  have hp := h.pa
  have h1 : ([x.vg, x.vb, x.va, .int .i64 x.w, .int .i64 x.t] : List Value).length = 5 := rfl
  rw [BatD.cells, List.getElem?_append_right (by rw [h1]; omega), h1, List.getElem?_append_right (by rw [ints_len]; omega), ints_len, hm, show 15 + j - 5 - 10 = j by omega, ints, List.getElem?_map, List.getElem?_eq_getElem (by omega), List.getD_eq_getElem?_getD, List.getElem?_eq_getElem (by omega)]
  rfl
theorem splice_set {c : List Value} {k : Nat} {v : Value} (h : k < c.length) : splice c k [v] = c.set k v := by
  rw [List.set_eq_take_append_cons_drop, if_pos h]
  simp [splice]
theorem ints_set (l : List Int) (j : Nat) (n : Int) : (ints l).set j (.int .i64 n) = ints (l.set j n) := by simp [ints, List.map_set]
theorem BatD.setM {x : BatD} (h : x.Sz) {j : Nat} (hj : j < 10) (n : Int) : splice x.cells (5 + j) [.int .i64 n] = ({ x with mi := x.mi.set j n } : BatD).cells ∧ ({ x with mi := x.mi.set j n } : BatD).Sz := by
  have hm := h.mi
  refine ⟨?_, ⟨by simp [hm], h.pa⟩⟩
  rw [splice_set (by rw [BatD.len h]; omega)]
  have h1 : ([x.vg, x.vb, x.va, .int .i64 x.w, .int .i64 x.t] : List Value).length = 5 := rfl
  show ([x.vg, x.vb, x.va, .int .i64 x.w, .int .i64 x.t] ++ (ints x.mi ++ ints x.pa)).set (5 + j) _ = _
  rw [List.set_append, if_neg (by rw [h1]; omega), h1, Nat.add_sub_cancel_left, List.set_append, if_pos (by rw [ints_len]; omega), ints_set]
  rfl
theorem BatD.setP {x : BatD} (h : x.Sz) {j : Nat} (hj : j < 10) (n : Int) : splice x.cells (15 + j) [.int .i64 n] = ({ x with pa := x.pa.set j n } : BatD).cells ∧ ({ x with pa := x.pa.set j n } : BatD).Sz := by
  have hm := h.mi
  have hp := h.pa
  refine ⟨?_, ⟨h.mi, by simp [hp]⟩⟩
  rw [splice_set (by rw [BatD.len h]; omega)]
  have h1 : ([x.vg, x.vb, x.va, .int .i64 x.w, .int .i64 x.t] : List Value).length = 5 := rfl
  show ([x.vg, x.vb, x.va, .int .i64 x.w, .int .i64 x.t] ++ (ints x.mi ++ ints x.pa)).set (15 + j) _ = _
  rw [List.set_append, if_neg (by rw [h1]; omega), h1, List.set_append, if_neg (by rw [ints_len]; omega), ints_len, hm, show 15 + j - 5 - 10 = j by omega, ints_set]
  rfl
theorem BatD.setW {x : BatD} (h : x.Sz) (n : Int) : splice x.cells 3 [.int .i64 n] = ({ x with w := n } : BatD).cells ∧ ({ x with w := n } : BatD).Sz := by
  refine ⟨?_, ⟨h.mi, h.pa⟩⟩
  rw [splice_set (by rw [BatD.len h]; omega)]
  rfl
theorem BatD.setT {x : BatD} (h : x.Sz) (n : Int) : splice x.cells 4 [.int .i64 n] = ({ x with t := n } : BatD).cells ∧ ({ x with t := n } : BatD).Sz := by
  refine ⟨?_, ⟨h.mi, h.pa⟩⟩
  rw [splice_set (by rw [BatD.len h]; omega)]
  rfl
end Go.Proofs.YtclgfagkaklnnaaGreat.C
end

section
open Go Go.Proofs Go.Proofs.YtclgfagkaklnnaaGreat
set_option maxRecDepth 100000
namespace Go.Proofs.YtclgfagkaklnnaaGreat.C
theorem least102 {m : CM} {b : Nat} {x : BatD} (hx : x.Sz) (ho : Own m b x.cells 0) {i : Nat} (hi : i < 5) {n : Int} {K : Value → CM → Prop} {Kp : List PanicEntry → CM → Prop}
    (hK : ∀ m' l, m'.next = m.next → (∀ y, y ≠ b → m'.get y = m.get y) → ({ x with mi := l } : BatD).Sz → Own m' b ({ x with mi := l } : BatD).cells 0 → K (.tuple ⟨[]⟩) m') :
    callw Tryz.prog 102 [.pointer (some ⟨b, 0, none⟩), .int .i64 i, .int .i64 n] m K Kp := by
  apply c102
  unfold s102
  simp only [cnilc, fz101_3, pop_some, cia99 _ _ hi, fa59_0]
  have hg := BatD.getM hx (j := i * 2) (by omega)
  rw [ho.cel.z ag3 hg]
  simp only [pop_some, cb_add]
  refine ho.store (by simp [toL, sz3]) (by simp [toL, BatD.len hx]; omega) rfl fun m2 hn hx2 ho2 => ?_
  obtain ⟨e1, e2⟩ := BatD.setM hx (j := i * 2) (by omega) (IntKind.i64.wrap (x.mi.getD (i * 2) 0 + n))
  simp only [toL] at ho2
  rw [e1] at ho2
  rw [leave0, RK_ret]
  exact hK m2 _ hn hx2 e2 ho2
theorem most103 {m : CM} {b : Nat} {x : BatD} (hx : x.Sz) (ho : Own m b x.cells 0) {i : Nat} (hi : i < 5) {n : Int} {K : Value → CM → Prop} {Kp : List PanicEntry → CM → Prop}
    (hK : ∀ m' l, m'.next = m.next → (∀ y, y ≠ b → m'.get y = m.get y) → ({ x with mi := l } : BatD).Sz → Own m' b ({ x with mi := l } : BatD).cells 0 → K (.tuple ⟨[]⟩) m') :
    callw Tryz.prog 103 [.pointer (some ⟨b, 0, none⟩), .int .i64 i, .int .i64 n] m K Kp := by
  apply c103
  unfold s103
  simp only [cnilc, fz101_3, pop_some, cia99 _ _ hi, fa59_1]
  have hg := BatD.getM hx (j := i * 2 + 1) (by omega)
  rw [← Nat.add_assoc] at hg
  rw [ho.cel.z ag3 hg]
  simp only [pop_some, cb_add]
  refine ho.store (by simp [toL, sz3]) (by simp [toL, BatD.len hx]; omega) rfl fun m2 hn hx2 ho2 => ?_
  obtain ⟨e1, e2⟩ := BatD.setM hx (j := i * 2 + 1) (by omega) (IntKind.i64.wrap (x.mi.getD (i * 2 + 1) 0 + n))
  rw [← Nat.add_assoc] at e1
  simp only [toL] at ho2
  rw [e1] at ho2
  rw [leave0, RK_ret]
  exact hK m2 _ hn hx2 e2 ho2
/-- A slice by what is asked of it: its length, where its elements lie. -/
structure SlW (T : TypeId) (e : Nat) (m : CM) (v : Value) (n : Nat) (row : Nat → List Value) : Prop where
  len : ∀ m', clen Tryz.prog T v m' = some (.int .i64 n)
  at' : ∀ i : Nat, i < n → ∃ b o, cia Tryz.prog T v (.int .i64 i) = some (.pointer (some ⟨b, o, none⟩)) ∧ Cel m b o (row i) ∧ (row i).length = e
theorem Sl.w {T E : TypeId} {e n : Nat} {m : CM} {v : Value} {row : Nat → List Value} (h : Sl e m v n row) (un : Tryz.prog.underlying T = some (.slice E)) (sz : szOf Tryz.prog E = some e) : SlW T e m v n row :=
  ⟨fun m' => h.len un m', fun i hi => by have := h.at un sz (i := i) (by omega) (by omega); simpa using this⟩
/-- pour. -/
theorem pour90 {m : CM} {b : Nat} {x : BatD} (hx : x.Sz) (ho : Own m b x.cells 0) {v : Value} {n : Nat} {row : Nat → List Value} (hs : ∀ m', KeepX m b m' → SlW 63 2 m' v n row) (hn : n ≤ 5) (hR : ∀ i, i < n → SpRow (row i)) {k : Int} {K : Value → CM → Prop} {Kp : List PanicEntry → CM → Prop}
    (hK : ∀ m' l, KeepX m b m' → ({ x with mi := l } : BatD).Sz → Own m' b ({ x with mi := l } : BatD).cells 0 → K (.tuple ⟨[]⟩) m') :
    callw Tryz.prog 90 [.pointer (some ⟨b, 0, none⟩), .int .i64 k, v] m K Kp := by
  apply c90
  unfold s90
  rw [(hs m (.refl m b)).len, pop_some]
  refine loopA_of (fun l0 ds m' => ds = [] ∧ KeepX m b m' ∧ ∃ (i : Nat) (l : List Int), i ≤ n ∧ ({ x with mi := l } : BatD).Sz ∧ Own m' b ({ x with mi := l } : BatD).cells 0 ∧ l0 = [.int .i64 k, .func (Fn.func 102) ⟨[.pointer (some ⟨b, 0, none⟩)]⟩ ⟨[]⟩, .func (Fn.func 103) ⟨[.pointer (some ⟨b, 0, none⟩)]⟩ ⟨[]⟩, v, .int .i64 n, .int .i64 i])
    (fun l _ => match l with | [_, _, _, _, _, .int _ i] => n - i.toNat | _ => 0) ⟨rfl, .refl m b, 0, x.mi, by omega, hx, ho, rfl⟩ ?_
  rintro X ρ ds m' ⟨rfl, hkp, i, l, hi, hx1, ho1, hll⟩ hX
  simp only [List.map_cons, List.map_nil, List.cons.injEq, and_true] at hll
  obtain ⟨q1, q6, q7, q14, q15, q16⟩ := hll
  simp only [q1, q6, q7, q14, q15, q16, cb_lss, pop_some]
  by_cases hci : i < n
  · have hc' : decide ((i : Int) < (n : Int)) = true := by simpa using hci
    obtain ⟨bx, ox, hia, hcel, hlen⟩ := (hs _ hkp).at' i hci
    obtain ⟨lo, hi', hr⟩ := hR i hci
    rw [hc', cnd_true, hia, pop_some, hcel.elv ag59 sz59 hlen (by decide), pop_some, hr]
    refine alw_of ze59 fun b9 m1 hle1 hb9 ho9 => store_own ho9 (by simp [toL, elv, sz59]) (by simp [toL, elv]) rfl fun m2 hn2 hx2 ho9 => ?_
    simp only [toL, elv] at ho9
    have hle2 := le_of_put hle1 hb9 hn2 hx2
    have hkp2 := hkp.le hle2
    replace ho1 := ho1.le hle2
    have hne : b9 ≠ b := by have := ho1.1; have := hle1.1; intro e; subst e; exact absurd (hkp.1) (by have := ho.1; omega)
    rw [fz59_0, pop_some, ldi ho9 rfl, pop_some, cb_mul, pop_some]
    show callw Tryz.prog 102 ([.pointer (some ⟨b, 0, none⟩)] ++ [_, _] ++ []) m2 _ _
    refine least102 hx1 ho1 (by omega) fun m3 l3 hn3 hx3 hz3 ho3 => ?_
    have ho9' : Own m3 b9 [.int .i64 lo, .int .i64 hi'] 0 := ⟨by rw [hn3]; exact ho9.1, by rw [hx3 b9 hne]; exact ho9.2⟩
    rw [fz59_1, pop_some, ldi ho9' rfl, pop_some, cb_mul, pop_some]
    show callw Tryz.prog 103 ([.pointer (some ⟨b, 0, none⟩)] ++ [_, _] ++ []) m3 _ _
    refine most103 hz3 ho3 (by omega) fun m4 l4 hn4 hx4 hz4 ho4 => ?_
    rw [cb_add, pop_some, wrap_id (by omega) (by omega)]
    refine hX _ _ _ ⟨rfl, (hkp2.put hn3 hx3).put hn4 hx4, i + 1, l4, by omega, hz4, ho4, by simp⟩ ?_
    simp only [List.map_cons, List.map_nil, q16]; omega
  · have hc' : decide ((i : Int) < (n : Int)) = false := by simpa using hci
    rw [hc', cnd_false, leave0, RK_ret]
    exact hK _ _ hkp hx1 ho1
end Go.Proofs.YtclgfagkaklnnaaGreat.C
end

section
open Go Go.Proofs Go.Proofs.YtclgfagkaklnnaaGreat
set_option maxRecDepth 100000
namespace Go.Proofs.YtclgfagkaklnnaaGreat.C
/-! ### The batches that come in -/
structure BatsD where
  v : Value
  n : Nat
  g : Nat → Value
  gn : Nat → Nat
  gx : Nat → Nat → Int
  k : Nat → Value
  kn : Nat → Nat
  kx : Nat → Nat → Int
  a : Nat → Value
  an : Nat → Nat
  ar : Nat → Nat → List Value
structure BatsD.In (e : BatsD) (m : CM) : Prop where
  s : Sl 3 m e.v e.n (fun i => [e.g i, e.k i, e.a i])
  sg : ∀ i, i < e.n → Sl 1 m (e.g i) (e.gn i) (fun j => [.int .i64 (e.gx i j)])
  sk : ∀ i, i < e.n → Sl 1 m (e.k i) (e.kn i) (fun j => [.int .i64 (e.kx i j)])
  sa : ∀ i, i < e.n → Sl 2 m (e.a i) (e.an i) (e.ar i)
  ar0 : ∀ i, i < e.n → ∀ j, j < e.an i → SpRow (e.ar i j)
  n0 : e.n < 4611686018427387904
  gn0 : ∀ i, i < e.n → e.gn i < 4611686018427387904
  kn0 : ∀ i, i < e.n → e.kn i < 4611686018427387904
  an0 : ∀ i, i < e.n → e.an i < 4611686018427387904
theorem BatsD.In.le {e : BatsD} {m m' : CM} (h : e.In m) (k : m.le m') : e.In m' := ⟨h.s.le k, fun i hi => (h.sg i hi).le k, fun i hi => (h.sk i hi).le k, fun i hi => (h.sa i hi).le k, h.ar0, h.n0, h.gn0, h.kn0, h.an0⟩
/-- What is known of a batch that was looked at. -/
structure BatOk (d : ShopD) (e : BatsD) (j : Nat) (x : BatD) : Prop where
  vg : x.vg = e.g j
  vb : x.vb = e.k j
  va : x.va = e.a j
  sz : x.Sz
  gn : e.gn j = d.nl
  kn : e.kn j ≤ j
  an : e.an j = d.nt
  gx : ∀ i, i < e.gn j → 0 ≤ e.gx j i ∧ e.gx j i ≤ 100000
  kx : ∀ i, i < e.kn j → 0 ≤ e.kx j i ∧ e.kx j i ≤ 100000
  ar : SpOk 10000000 (e.an j) (e.ar j)
  w : 1 ≤ x.w ∧ x.w ≤ 2000000
/-- The batches that were looked at lie in the blocks bs. -/
structure AllI (d : ShopD) (e : BatsD) (lo : Nat) (m : CM) (bs : List Nat) (xs : Nat → BatD) : Prop where
  own : ∀ j b, bs[j]? = some b → Own m b (xs j).cells 0
  ok : ∀ j, j < bs.length → BatOk d e j (xs j)
  ge : ∀ b ∈ bs, lo ≤ b
  nd : bs.Pairwise (· ≠ ·)
def ptrs (bs : List Nat) : List Value := bs.map fun b => .pointer (some ⟨b, 0, none⟩)
theorem AllI.le {d : ShopD} {e : BatsD} {lo : Nat} {m m' : CM} {bs : List Nat} {xs : Nat → BatD} (h : AllI d e lo m bs xs) (k : m.le m') : AllI d e lo m' bs xs := ⟨fun j b hb => (h.own j b hb).le k, h.ok, h.ge, h.nd⟩
theorem splice2 {c : List Value} {k : Nat} {v u : Value} (h : k + 1 < c.length) : splice c k [v, u] = (c.set k v).set (k + 1) u := by
  apply List.ext_getElem?
  intro i
  simp only [splice, List.getElem?_set, List.length_set, List.length_cons, List.length_nil]
  rw [List.append_assoc, List.getElem?_append, List.length_take, Nat.min_eq_left (by omega)]
  by_cases h1 : i < k
  · rw [if_pos h1, if_neg (by omega), if_neg (by omega), List.getElem?_take, if_pos h1]
  · rw [if_neg h1]
    by_cases h2 : i = k
    · subst h2
      rw [if_neg (by omega), if_pos rfl, if_pos (by omega)]; simp
    · by_cases h3 : i = k + 1
      · subst h3
        rw [if_pos rfl, if_pos (by omega), show k + 1 - k = 1 by omega]; simp
      · rw [if_neg (by omega), if_neg (by omega), List.getElem?_append_right (by simp; omega), List.getElem?_drop]
        congr 1; simp; omega
theorem BatD.setP2 {x : BatD} (h : x.Sz) {j : Nat} (hj : j + 1 < 10) (n u : Int) : splice x.cells (15 + j) [.int .i64 n, .int .i64 u] = ({ x with pa := (x.pa.set j n).set (j + 1) u } : BatD).cells ∧ ({ x with pa := (x.pa.set j n).set (j + 1) u } : BatD).Sz := by
  have hl := BatD.len h
  obtain ⟨e1, e2⟩ := BatD.setP h (j := j) (by omega) n
  obtain ⟨f1, f2⟩ := BatD.setP e2 (j := j + 1) (by omega) u
  rw [splice_set (by omega)] at e1
  rw [← e1, splice_set (by rw [List.length_set]; omega)] at f1
  rw [splice2 (by omega), Nat.add_assoc]
  exact ⟨f1, f2⟩
end Go.Proofs.YtclgfagkaklnnaaGreat.C
end

section
open Go Go.Proofs Go.Proofs.YtclgfagkaklnnaaGreat
set_option maxRecDepth 100000
namespace Go.Proofs.YtclgfagkaklnnaaGreat.C
theorem cix99_0 (a0 a1 a2 a3 a4 a5 a6 a7 a8 a9 : Int) : cindex Tryz.prog 99 (.agg ⟨[.int .i64 a0, .int .i64 a1, .int .i64 a2, .int .i64 a3, .int .i64 a4, .int .i64 a5, .int .i64 a6, .int .i64 a7, .int .i64 a8, .int .i64 a9]⟩) (.int .i64 0) = some (.agg ⟨[.int .i64 a0, .int .i64 a1]⟩) := by kernel_rfl
theorem cix99_1 (a0 a1 a2 a3 a4 a5 a6 a7 a8 a9 : Int) : cindex Tryz.prog 99 (.agg ⟨[.int .i64 a0, .int .i64 a1, .int .i64 a2, .int .i64 a3, .int .i64 a4, .int .i64 a5, .int .i64 a6, .int .i64 a7, .int .i64 a8, .int .i64 a9]⟩) (.int .i64 1) = some (.agg ⟨[.int .i64 a2, .int .i64 a3]⟩) := by kernel_rfl
theorem cix99_2 (a0 a1 a2 a3 a4 a5 a6 a7 a8 a9 : Int) : cindex Tryz.prog 99 (.agg ⟨[.int .i64 a0, .int .i64 a1, .int .i64 a2, .int .i64 a3, .int .i64 a4, .int .i64 a5, .int .i64 a6, .int .i64 a7, .int .i64 a8, .int .i64 a9]⟩) (.int .i64 2) = some (.agg ⟨[.int .i64 a4, .int .i64 a5]⟩) := by kernel_rfl
theorem cix99_3 (a0 a1 a2 a3 a4 a5 a6 a7 a8 a9 : Int) : cindex Tryz.prog 99 (.agg ⟨[.int .i64 a0, .int .i64 a1, .int .i64 a2, .int .i64 a3, .int .i64 a4, .int .i64 a5, .int .i64 a6, .int .i64 a7, .int .i64 a8, .int .i64 a9]⟩) (.int .i64 3) = some (.agg ⟨[.int .i64 a6, .int .i64 a7]⟩) := by kernel_rfl
theorem cix99_4 (a0 a1 a2 a3 a4 a5 a6 a7 a8 a9 : Int) : cindex Tryz.prog 99 (.agg ⟨[.int .i64 a0, .int .i64 a1, .int .i64 a2, .int .i64 a3, .int .i64 a4, .int .i64 a5, .int .i64 a6, .int .i64 a7, .int .i64 a8, .int .i64 a9]⟩) (.int .i64 4) = some (.agg ⟨[.int .i64 a8, .int .i64 a9]⟩) := by kernel_rfl
theorem cix99 (l : List Int) (hl : l.length = 10) {i : Nat} (hi : i < 5) : cindex Tryz.prog 99 (.agg ⟨ints l⟩) (.int .i64 i) = some (.agg ⟨[.int .i64 (l.getD (i * 2) 0), .int .i64 (l.getD (i * 2 + 1) 0)]⟩) := by
  match l, hl with
  | [a0, a1, a2, a3, a4, a5, a6, a7, a8, a9], _ =>
    have : i = 0 ∨ i = 1 ∨ i = 2 ∨ i = 3 ∨ i = 4 := by omega
    rcases this with rfl | rfl | rfl | rfl | rfl
    · exact cix99_0 a0 a1 a2 a3 a4 a5 a6 a7 a8 a9
    · exact cix99_1 a0 a1 a2 a3 a4 a5 a6 a7 a8 a9
    · exact cix99_2 a0 a1 a2 a3 a4 a5 a6 a7 a8 a9
    · exact cix99_3 a0 a1 a2 a3 a4 a5 a6 a7 a8 a9
    · exact cix99_4 a0 a1 a2 a3 a4 a5 a6 a7 a8 a9
theorem cb_quo {t : TypeId} {x y : Operand} {k : IntKind} {a b : Int} (h : b ≠ 0) : cbin Tryz.prog .quo t x y (.int k a) (.int k b) = some (.int k (k.wrap (a.tdiv b))) := by simp [cbin, plainV, eqg, binOp_quo, Op.intDiv, h, pr_pure, chk]
theorem cun_neg {k : IntKind} {a : Int} : cun Tryz.prog .neg (.int k a) = some (.int k (k.wrap (-a))) := by simp [cun, plainV, Op.unary, Op.intArith, pr_pure, chk]
theorem cmm_min {a b : Int} : ∃ n, cmm Tryz.prog .min [.int .i64 a, .int .i64 b] = some (.int .i64 n) := by
  refine ⟨if b < a then b else a, ?_⟩
  simp only [cmm, plainL, plainV, Bool.and_self, if_true, Builtin.min_, List.foldlM_cons, List.foldlM_nil, Builtin.min2]
  rfl
theorem cmm_max {a b : Int} : ∃ n, cmm Tryz.prog .max [.int .i64 a, .int .i64 b] = some (.int .i64 n) := by
  refine ⟨if b > a then b else a, ?_⟩
  simp only [cmm, plainL, plainV, Bool.and_self, if_true, Builtin.max_, List.foldlM_cons, List.foldlM_nil, Builtin.max2]
  rfl
theorem hcb59 (a b : Int) : cbuild Tryz.prog 59 [(0, .int .i64 a), (1, .int .i64 b)] = some (.agg ⟨[.int .i64 a, .int .i64 b]⟩) := by kernel_rfl
theorem hcb59z : cbuild Tryz.prog 59 [] = some (.agg ⟨[.int .i64 0, .int .i64 0]⟩) := by kernel_rfl
end Go.Proofs.YtclgfagkaklnnaaGreat.C
end

section
open Go Go.Proofs Go.Proofs.YtclgfagkaklnnaaGreat
set_option maxRecDepth 100000
set_option linter.unusedVariables false
namespace Go.Proofs.YtclgfagkaklnnaaGreat.C
def lp3 (R : CE → CM → Prop) (q3 q7 q183 q184 : Value) (m : CM) : Prop :=
  loopA [3, 7, 183, 184] (fun X3 ρ3 ds m => pop (cbin Tryz.prog BinOp.lss 3 (Operand.tmp 184) (Operand.const (Value.int IntKind.i64 5)) (ρ3 184) (.int .i64 5)) m (fun t185 m => cnd t185 (pop (cindex Tryz.prog 99 (ρ3 183) (ρ3 184)) m (fun t187 m => alw Tryz.prog 59 m (fun t15 m => sop (cstore Tryz.prog 59 t15 t187 m) (fun _ m => pop (cfa Tryz.prog 59 0 t15) m (fun t190 _ => pop (cload Tryz.prog 3 t190 m) m (fun t191 _ => pop (cnilc (ρ3 7)) m (fun t193 _ => pop (cfa Tryz.prog 101 1 t193) m (fun t194 _ => pop (cload Tryz.prog 3 t194 m) m (fun t195 _ => pop (cbin Tryz.prog BinOp.quo 3 (Operand.tmp 191) (Operand.tmp 195) t191 t195) m (fun t196 _ => pop (cmm Tryz.prog .min [(.int .i64 1000000), t196]) m (fun t197 _ => pop (cfa Tryz.prog 59 1 t15) m (fun t198 _ => pop (cload Tryz.prog 3 t198 m) m (fun t199 _ => pop (cnilc (ρ3 7)) m (fun t201 _ => pop (cfa Tryz.prog 101 1 t201) m (fun t202 _ => pop (cload Tryz.prog 3 t202 m) m (fun t203 _ => pop (cbin Tryz.prog BinOp.add 3 (Operand.tmp 199) (Operand.tmp 203) t199 t203) m (fun t204 _ => pop (cbin Tryz.prog BinOp.sub 3 (Operand.tmp 204) (Operand.const (Value.int IntKind.i64 1)) t204 (.int .i64 1)) m (fun t205 _ => pop (cnilc (ρ3 7)) m (fun t207 _ => pop (cfa Tryz.prog 101 1 t207) m (fun t208 _ => pop (cload Tryz.prog 3 t208 m) m (fun t209 _ => pop (cbin Tryz.prog BinOp.quo 3 (Operand.tmp 205) (Operand.tmp 209) t205 t209) m (fun t210 _ => pop (cmm Tryz.prog .min [(.int .i64 1000000), t210]) m (fun t211 _ => pop (cbuild Tryz.prog 59 [(0, t197), (1, t211)]) m (fun t212 _ => pop (cnilc (ρ3 7)) m (fun t213 _ => pop (cfa Tryz.prog 101 4 t213) m (fun t214 _ => pop (cia Tryz.prog 99 t214 (ρ3 184)) m (fun t215 m => sop (cstore Tryz.prog 59 t215 t212 m) (fun _ m => pop (cbin Tryz.prog BinOp.add 3 (Operand.tmp 184) (Operand.const (Value.int IntKind.i64 1)) (ρ3 184) (.int .i64 1)) m (fun t216 m => X3 [(ρ3 3), (ρ3 7), (ρ3 183), t216] ds m))))))))))))))))))))))))))))) (pop (cload Tryz.prog 91 (ρ3 3) m) m (fun t217 m => vop (cbuildS Tryz.prog 91 1 [(0, (ρ3 7))] m) (fun t219 m => vop (cappend Tryz.prog [91, 91] t217 t219 m) (fun t220 m => sop (cstore Tryz.prog 91 (ρ3 3) t220 m) (fun _ m => leaveV Tryz.prog [.v (.int .i64 0)] ds .ret m R))))))) [q3, q7, q183, q184] [] m
def lp2 (R : CE → CM → Prop) (q2 q3 q6 q7 q11 q114 q115 q116 : Value) (m : CM) : Prop :=
  loopA [2, 3, 6, 7, 11, 114, 115, 116] (fun X2 ρ2 ds m => pop (cbin Tryz.prog BinOp.lss 3 (Operand.tmp 116) (Operand.tmp 115) (ρ2 116) (ρ2 115)) m (fun t117 m => cnd t117 (pop (cia Tryz.prog 28 (ρ2 114) (ρ2 116)) m (fun t119 m => pop (cload Tryz.prog 3 t119 m) m (fun t120 m => pop (cnilc (ρ2 7)) m (fun t122 m => pop (cfa Tryz.prog 101 1 t122) m (fun t123 m => pop (cload Tryz.prog 3 t123 m) m (fun t124 m => pop (cbin Tryz.prog BinOp.add 3 (Operand.tmp 124) (Operand.tmp 125) t124 t120) m (fun t126 m => pop (cnilc (ρ2 7)) m (fun t127 m => pop (cfa Tryz.prog 101 1 t127) m (fun t128 m => sop (cstore Tryz.prog 3 t128 t126 m) (fun _ m => pop (cload Tryz.prog 91 (ρ2 3) m) m (fun t131 _ => pop (cia Tryz.prog 91 t131 (ρ2 116)) m (fun t133 _ => pop (cload Tryz.prog 94 t133 m) m (fun t134 _ => pop (cnilc t134) m (fun t135 _ => pop (cfa Tryz.prog 101 4 t135) m (fun t136 _ => pop (cfa Tryz.prog 25 0 (ρ2 2)) m (fun t137 _ => pop (cload Tryz.prog 22 t137 m) m (fun t138 _ => pop (clen Tryz.prog 22 t138 m) m (fun t139 _ => pop (cslice Tryz.prog 99 t136 none (some t139) none m) m (fun t140 _ => callw Tryz.prog 90 [(ρ2 7), t120, t140] m (fun t141 m => pop (cload Tryz.prog 91 (ρ2 3) m) m (fun t142 m => pop (cia Tryz.prog 91 t142 (ρ2 116)) m (fun t144 m => pop (cload Tryz.prog 94 t144 m) m (fun t145 m => pop (cnilc t145) m (fun t146 m => pop (cfa Tryz.prog 101 2 t146) m (fun t147 m => pop (cload Tryz.prog 3 t147 m) m (fun t148 m => pop (cbin Tryz.prog BinOp.add 3 (Operand.tmp 148) (Operand.tmp 149) t148 t120) m (fun t150 m => pop (cnilc t145) m (fun t151 m => pop (cfa Tryz.prog 101 2 t151) m (fun t152 m => sop (cstore Tryz.prog 3 t152 t150 m) (fun _ m => dgs (gb (ρ2 11) false) (fun K => pop (cload Tryz.prog 91 (ρ2 3) m) m (fun t155 _ => K t155)) (fun t155 => dgs (gb (ρ2 11) false) (fun K => K (ρ2 116)) (fun t156 => dgs (gb (ρ2 11) false) (fun K => pop (cia Tryz.prog 91 t155 t156) m (fun t157 _ => K t157)) (fun t157 => dgs (gb (ρ2 11) false) (fun K => pop (cload Tryz.prog 94 t157 m) m (fun t158 _ => K t158)) (fun t158 => dgs (gb (ρ2 11) false) (fun K => pop (cnilc t158) m (fun t159 _ => K t159)) (fun t159 => dgs (gb (ρ2 11) false) (fun K => pop (cfa Tryz.prog 101 2 t159) m (fun t160 _ => K t160)) (fun t160 => dgs (gb (ρ2 11) false) (fun K => pop (cload Tryz.prog 3 t160 m) m (fun t161 _ => K t161)) (fun t161 => dgs (gb (ρ2 11) false) (fun K => pop (cload Tryz.prog 91 (ρ2 3) m) m (fun t162 _ => K t162)) (fun t162 => dgs (gb (ρ2 11) false) (fun K => K (ρ2 116)) (fun t163 => dgs (gb (ρ2 11) false) (fun K => pop (cia Tryz.prog 91 t162 t163) m (fun t164 _ => K t164)) (fun t164 => dgs (gb (ρ2 11) false) (fun K => pop (cload Tryz.prog 94 t164 m) m (fun t165 _ => K t165)) (fun t165 => dgs (gb (ρ2 11) false) (fun K => pop (cnilc t165) m (fun t166 _ => K t166)) (fun t166 => dgs (gb (ρ2 11) false) (fun K => pop (cfa Tryz.prog 101 1 t166) m (fun t167 _ => K t167)) (fun t167 => dgs (gb (ρ2 11) false) (fun K => pop (cload Tryz.prog 3 t167 m) m (fun t168 _ => K t168)) (fun t168 => gop (gb (ρ2 11) false) (fun K => pop (cbin Tryz.prog BinOp.gtr 3 (Operand.tmp 161) (Operand.tmp 168) t161 t168) m K) (fun t169 m => pop (cpick (ρ2 11) (.bool true) t169) m (fun t170 m => pop (cbin Tryz.prog BinOp.add 3 (Operand.tmp 116) (Operand.const (Value.int IntKind.i64 1)) (ρ2 116) (.int .i64 1)) m (fun t171 m => X2 [(ρ2 2), (ρ2 3), (ρ2 6), (ρ2 7), t170, (ρ2 114), (ρ2 115), t171] ds m))) m))))))))))))))))))))))))) (fun ch m => leaveV Tryz.prog [.v (ρ2 6)] ds (.pan ch) m R)))))))))))))))))))) (pop (cnilc (ρ2 7)) m (fun t174 m => pop (cfa Tryz.prog 101 1 t174) m (fun t175 m => pop (cload Tryz.prog 3 t175 m) m (fun t176 m => pop (cbin Tryz.prog BinOp.eql 3 (Operand.tmp 176) (Operand.const (Value.int IntKind.i64 0)) t176 (.int .i64 0)) m (fun t177 m => cnd t177 (leaveV Tryz.prog [.v (.int .i64 8)] ds .ret m R) (cnd (ρ2 11) (leaveV Tryz.prog [.v (.int .i64 9)] ds .ret m R) (pop (cnilc (ρ2 7)) m (fun t181 m => pop (cfa Tryz.prog 101 3 t181) m (fun t182 m => pop (cload Tryz.prog 99 t182 m) m (fun t183 m => loopA [3, 7, 183, 184] (fun X3 ρ3 ds m => pop (cbin Tryz.prog BinOp.lss 3 (Operand.tmp 184) (Operand.const (Value.int IntKind.i64 5)) (ρ3 184) (.int .i64 5)) m (fun t185 m => cnd t185 (pop (cindex Tryz.prog 99 (ρ3 183) (ρ3 184)) m (fun t187 m => alw Tryz.prog 59 m (fun t15 m => sop (cstore Tryz.prog 59 t15 t187 m) (fun _ m => pop (cfa Tryz.prog 59 0 t15) m (fun t190 _ => pop (cload Tryz.prog 3 t190 m) m (fun t191 _ => pop (cnilc (ρ3 7)) m (fun t193 _ => pop (cfa Tryz.prog 101 1 t193) m (fun t194 _ => pop (cload Tryz.prog 3 t194 m) m (fun t195 _ => pop (cbin Tryz.prog BinOp.quo 3 (Operand.tmp 191) (Operand.tmp 195) t191 t195) m (fun t196 _ => pop (cmm Tryz.prog .min [(.int .i64 1000000), t196]) m (fun t197 _ => pop (cfa Tryz.prog 59 1 t15) m (fun t198 _ => pop (cload Tryz.prog 3 t198 m) m (fun t199 _ => pop (cnilc (ρ3 7)) m (fun t201 _ => pop (cfa Tryz.prog 101 1 t201) m (fun t202 _ => pop (cload Tryz.prog 3 t202 m) m (fun t203 _ => pop (cbin Tryz.prog BinOp.add 3 (Operand.tmp 199) (Operand.tmp 203) t199 t203) m (fun t204 _ => pop (cbin Tryz.prog BinOp.sub 3 (Operand.tmp 204) (Operand.const (Value.int IntKind.i64 1)) t204 (.int .i64 1)) m (fun t205 _ => pop (cnilc (ρ3 7)) m (fun t207 _ => pop (cfa Tryz.prog 101 1 t207) m (fun t208 _ => pop (cload Tryz.prog 3 t208 m) m (fun t209 _ => pop (cbin Tryz.prog BinOp.quo 3 (Operand.tmp 205) (Operand.tmp 209) t205 t209) m (fun t210 _ => pop (cmm Tryz.prog .min [(.int .i64 1000000), t210]) m (fun t211 _ => pop (cbuild Tryz.prog 59 [(0, t197), (1, t211)]) m (fun t212 _ => pop (cnilc (ρ3 7)) m (fun t213 _ => pop (cfa Tryz.prog 101 4 t213) m (fun t214 _ => pop (cia Tryz.prog 99 t214 (ρ3 184)) m (fun t215 m => sop (cstore Tryz.prog 59 t215 t212 m) (fun _ m => pop (cbin Tryz.prog BinOp.add 3 (Operand.tmp 184) (Operand.const (Value.int IntKind.i64 1)) (ρ3 184) (.int .i64 1)) m (fun t216 m => X3 [(ρ3 3), (ρ3 7), (ρ3 183), t216] ds m))))))))))))))))))))))))))))) (pop (cload Tryz.prog 91 (ρ3 3) m) m (fun t217 m => vop (cbuildS Tryz.prog 91 1 [(0, (ρ3 7))] m) (fun t219 m => vop (cappend Tryz.prog [91, 91] t217 t219 m) (fun t220 m => sop (cstore Tryz.prog 91 (ρ3 3) t220 m) (fun _ m => leaveV Tryz.prog [.v (.int .i64 0)] ds .ret m R))))))) [(ρ2 3), (ρ2 7), t183, (.int .i64 0)] ds m)))))))))))) [q2, q3, q6, q7, q11, q114, q115, q116] [] m
def lp1 (R : CE → CM → Prop) (q2 q3 q6 q7 q85 q86 q87 : Value) (m : CM) : Prop :=
  loopA [2, 3, 6, 7, 85, 86, 87] (fun X1 ρ1 ds m => pop (cbin Tryz.prog BinOp.lss 3 (Operand.tmp 87) (Operand.tmp 86) (ρ1 87) (ρ1 86)) m (fun t88 m => cnd t88 (pop (cia Tryz.prog 28 (ρ1 85) (ρ1 87)) m (fun t90 m => pop (cload Tryz.prog 3 t90 m) m (fun t91 m => pop (cnilc (ρ1 7)) m (fun t93 m => pop (cfa Tryz.prog 101 1 t93) m (fun t94 m => pop (cload Tryz.prog 3 t94 m) m (fun t95 m => pop (cbin Tryz.prog BinOp.add 3 (Operand.tmp 95) (Operand.tmp 96) t95 t91) m (fun t97 m => pop (cnilc (ρ1 7)) m (fun t98 m => pop (cfa Tryz.prog 101 1 t98) m (fun t99 m => sop (cstore Tryz.prog 3 t99 t97 m) (fun _ m => pop (cfa Tryz.prog 25 1 (ρ1 2)) m (fun t102 m => pop (cload Tryz.prog 23 t102 m) m (fun t103 m => pop (cia Tryz.prog 23 t103 (ρ1 87)) m (fun t105 m => pop (cfa Tryz.prog 85 1 t105) m (fun t106 m => pop (cload Tryz.prog 63 t106 m) m (fun t107 m => callw Tryz.prog 90 [(ρ1 7), t91, t107] m (fun t108 m => pop (cbin Tryz.prog BinOp.add 3 (Operand.tmp 87) (Operand.const (Value.int IntKind.i64 1)) (ρ1 87) (.int .i64 1)) m (fun t109 m => X1 [(ρ1 2), (ρ1 3), (ρ1 6), (ρ1 7), (ρ1 85), (ρ1 86), t109] ds m)) (fun ch m => leaveV Tryz.prog [.v (ρ1 6)] ds (.pan ch) m R)))))))))))))))) (pop (cnilc (ρ1 7)) m (fun t111 m => pop (cfa Tryz.prog 101 0 t111) m (fun t112 m => pop (cfa Tryz.prog 97 1 t112) m (fun t113 m => pop (cload Tryz.prog 28 t113 m) m (fun t114 m => pop (clen Tryz.prog 28 t114 m) m (fun t115 m => loopA [2, 3, 6, 7, 11, 114, 115, 116] (fun X2 ρ2 ds m => pop (cbin Tryz.prog BinOp.lss 3 (Operand.tmp 116) (Operand.tmp 115) (ρ2 116) (ρ2 115)) m (fun t117 m => cnd t117 (pop (cia Tryz.prog 28 (ρ2 114) (ρ2 116)) m (fun t119 m => pop (cload Tryz.prog 3 t119 m) m (fun t120 m => pop (cnilc (ρ2 7)) m (fun t122 m => pop (cfa Tryz.prog 101 1 t122) m (fun t123 m => pop (cload Tryz.prog 3 t123 m) m (fun t124 m => pop (cbin Tryz.prog BinOp.add 3 (Operand.tmp 124) (Operand.tmp 125) t124 t120) m (fun t126 m => pop (cnilc (ρ2 7)) m (fun t127 m => pop (cfa Tryz.prog 101 1 t127) m (fun t128 m => sop (cstore Tryz.prog 3 t128 t126 m) (fun _ m => pop (cload Tryz.prog 91 (ρ2 3) m) m (fun t131 _ => pop (cia Tryz.prog 91 t131 (ρ2 116)) m (fun t133 _ => pop (cload Tryz.prog 94 t133 m) m (fun t134 _ => pop (cnilc t134) m (fun t135 _ => pop (cfa Tryz.prog 101 4 t135) m (fun t136 _ => pop (cfa Tryz.prog 25 0 (ρ2 2)) m (fun t137 _ => pop (cload Tryz.prog 22 t137 m) m (fun t138 _ => pop (clen Tryz.prog 22 t138 m) m (fun t139 _ => pop (cslice Tryz.prog 99 t136 none (some t139) none m) m (fun t140 _ => callw Tryz.prog 90 [(ρ2 7), t120, t140] m (fun t141 m => pop (cload Tryz.prog 91 (ρ2 3) m) m (fun t142 m => pop (cia Tryz.prog 91 t142 (ρ2 116)) m (fun t144 m => pop (cload Tryz.prog 94 t144 m) m (fun t145 m => pop (cnilc t145) m (fun t146 m => pop (cfa Tryz.prog 101 2 t146) m (fun t147 m => pop (cload Tryz.prog 3 t147 m) m (fun t148 m => pop (cbin Tryz.prog BinOp.add 3 (Operand.tmp 148) (Operand.tmp 149) t148 t120) m (fun t150 m => pop (cnilc t145) m (fun t151 m => pop (cfa Tryz.prog 101 2 t151) m (fun t152 m => sop (cstore Tryz.prog 3 t152 t150 m) (fun _ m => dgs (gb (ρ2 11) false) (fun K => pop (cload Tryz.prog 91 (ρ2 3) m) m (fun t155 _ => K t155)) (fun t155 => dgs (gb (ρ2 11) false) (fun K => K (ρ2 116)) (fun t156 => dgs (gb (ρ2 11) false) (fun K => pop (cia Tryz.prog 91 t155 t156) m (fun t157 _ => K t157)) (fun t157 => dgs (gb (ρ2 11) false) (fun K => pop (cload Tryz.prog 94 t157 m) m (fun t158 _ => K t158)) (fun t158 => dgs (gb (ρ2 11) false) (fun K => pop (cnilc t158) m (fun t159 _ => K t159)) (fun t159 => dgs (gb (ρ2 11) false) (fun K => pop (cfa Tryz.prog 101 2 t159) m (fun t160 _ => K t160)) (fun t160 => dgs (gb (ρ2 11) false) (fun K => pop (cload Tryz.prog 3 t160 m) m (fun t161 _ => K t161)) (fun t161 => dgs (gb (ρ2 11) false) (fun K => pop (cload Tryz.prog 91 (ρ2 3) m) m (fun t162 _ => K t162)) (fun t162 => dgs (gb (ρ2 11) false) (fun K => K (ρ2 116)) (fun t163 => dgs (gb (ρ2 11) false) (fun K => pop (cia Tryz.prog 91 t162 t163) m (fun t164 _ => K t164)) (fun t164 => dgs (gb (ρ2 11) false) (fun K => pop (cload Tryz.prog 94 t164 m) m (fun t165 _ => K t165)) (fun t165 => dgs (gb (ρ2 11) false) (fun K => pop (cnilc t165) m (fun t166 _ => K t166)) (fun t166 => dgs (gb (ρ2 11) false) (fun K => pop (cfa Tryz.prog 101 1 t166) m (fun t167 _ => K t167)) (fun t167 => dgs (gb (ρ2 11) false) (fun K => pop (cload Tryz.prog 3 t167 m) m (fun t168 _ => K t168)) (fun t168 => gop (gb (ρ2 11) false) (fun K => pop (cbin Tryz.prog BinOp.gtr 3 (Operand.tmp 161) (Operand.tmp 168) t161 t168) m K) (fun t169 m => pop (cpick (ρ2 11) (.bool true) t169) m (fun t170 m => pop (cbin Tryz.prog BinOp.add 3 (Operand.tmp 116) (Operand.const (Value.int IntKind.i64 1)) (ρ2 116) (.int .i64 1)) m (fun t171 m => X2 [(ρ2 2), (ρ2 3), (ρ2 6), (ρ2 7), t170, (ρ2 114), (ρ2 115), t171] ds m))) m))))))))))))))))))))))))) (fun ch m => leaveV Tryz.prog [.v (ρ2 6)] ds (.pan ch) m R)))))))))))))))))))) (pop (cnilc (ρ2 7)) m (fun t174 m => pop (cfa Tryz.prog 101 1 t174) m (fun t175 m => pop (cload Tryz.prog 3 t175 m) m (fun t176 m => pop (cbin Tryz.prog BinOp.eql 3 (Operand.tmp 176) (Operand.const (Value.int IntKind.i64 0)) t176 (.int .i64 0)) m (fun t177 m => cnd t177 (leaveV Tryz.prog [.v (.int .i64 8)] ds .ret m R) (cnd (ρ2 11) (leaveV Tryz.prog [.v (.int .i64 9)] ds .ret m R) (pop (cnilc (ρ2 7)) m (fun t181 m => pop (cfa Tryz.prog 101 3 t181) m (fun t182 m => pop (cload Tryz.prog 99 t182 m) m (fun t183 m => loopA [3, 7, 183, 184] (fun X3 ρ3 ds m => pop (cbin Tryz.prog BinOp.lss 3 (Operand.tmp 184) (Operand.const (Value.int IntKind.i64 5)) (ρ3 184) (.int .i64 5)) m (fun t185 m => cnd t185 (pop (cindex Tryz.prog 99 (ρ3 183) (ρ3 184)) m (fun t187 m => alw Tryz.prog 59 m (fun t15 m => sop (cstore Tryz.prog 59 t15 t187 m) (fun _ m => pop (cfa Tryz.prog 59 0 t15) m (fun t190 _ => pop (cload Tryz.prog 3 t190 m) m (fun t191 _ => pop (cnilc (ρ3 7)) m (fun t193 _ => pop (cfa Tryz.prog 101 1 t193) m (fun t194 _ => pop (cload Tryz.prog 3 t194 m) m (fun t195 _ => pop (cbin Tryz.prog BinOp.quo 3 (Operand.tmp 191) (Operand.tmp 195) t191 t195) m (fun t196 _ => pop (cmm Tryz.prog .min [(.int .i64 1000000), t196]) m (fun t197 _ => pop (cfa Tryz.prog 59 1 t15) m (fun t198 _ => pop (cload Tryz.prog 3 t198 m) m (fun t199 _ => pop (cnilc (ρ3 7)) m (fun t201 _ => pop (cfa Tryz.prog 101 1 t201) m (fun t202 _ => pop (cload Tryz.prog 3 t202 m) m (fun t203 _ => pop (cbin Tryz.prog BinOp.add 3 (Operand.tmp 199) (Operand.tmp 203) t199 t203) m (fun t204 _ => pop (cbin Tryz.prog BinOp.sub 3 (Operand.tmp 204) (Operand.const (Value.int IntKind.i64 1)) t204 (.int .i64 1)) m (fun t205 _ => pop (cnilc (ρ3 7)) m (fun t207 _ => pop (cfa Tryz.prog 101 1 t207) m (fun t208 _ => pop (cload Tryz.prog 3 t208 m) m (fun t209 _ => pop (cbin Tryz.prog BinOp.quo 3 (Operand.tmp 205) (Operand.tmp 209) t205 t209) m (fun t210 _ => pop (cmm Tryz.prog .min [(.int .i64 1000000), t210]) m (fun t211 _ => pop (cbuild Tryz.prog 59 [(0, t197), (1, t211)]) m (fun t212 _ => pop (cnilc (ρ3 7)) m (fun t213 _ => pop (cfa Tryz.prog 101 4 t213) m (fun t214 _ => pop (cia Tryz.prog 99 t214 (ρ3 184)) m (fun t215 m => sop (cstore Tryz.prog 59 t215 t212 m) (fun _ m => pop (cbin Tryz.prog BinOp.add 3 (Operand.tmp 184) (Operand.const (Value.int IntKind.i64 1)) (ρ3 184) (.int .i64 1)) m (fun t216 m => X3 [(ρ3 3), (ρ3 7), (ρ3 183), t216] ds m))))))))))))))))))))))))))))) (pop (cload Tryz.prog 91 (ρ3 3) m) m (fun t217 m => vop (cbuildS Tryz.prog 91 1 [(0, (ρ3 7))] m) (fun t219 m => vop (cappend Tryz.prog [91, 91] t217 t219 m) (fun t220 m => sop (cstore Tryz.prog 91 (ρ3 3) t220 m) (fun _ m => leaveV Tryz.prog [.v (.int .i64 0)] ds .ret m R))))))) [(ρ2 3), (ρ2 7), t183, (.int .i64 0)] ds m)))))))))))) [(ρ1 2), (ρ1 3), (ρ1 6), (ρ1 7), (.bool false), t114, t115, (.int .i64 0)] ds m)))))))) [q2, q3, q6, q7, q85, q86, q87] [] m
/-- What stands behind the parts' loop: the batch is appended. -/
def ex3 (R : CE → CM → Prop) (q3 q7 : Value) (m : CM) : Prop :=
  pop (cload Tryz.prog 91 q3 m) m (fun t217 m => vop (cbuildS Tryz.prog 91 1 [(0, q7)] m) (fun t219 m => vop (cappend Tryz.prog [91, 91] t217 t219 m) (fun t220 m => sop (cstore Tryz.prog 91 q3 t220 m) (fun _ m => leaveV Tryz.prog [.v (.int .i64 0)] [] .ret m R))))
theorem lp3_ok {R : CE → CM → Prop} {m : CM} {b : Nat} {x : BatD} (hx : x.Sz) (ho : Own m b x.cells 0) (hw : x.w ≠ 0) {q3 : Value} {mi : List Int} (hmi : mi.length = 10)
    (hE : ∀ m' l, KeepX m b m' → ({ x with pa := l } : BatD).Sz → Own m' b ({ x with pa := l } : BatD).cells 0 → ex3 R q3 (.pointer (some ⟨b, 0, none⟩)) m') :
    lp3 R q3 (.pointer (some ⟨b, 0, none⟩)) (.agg ⟨ints mi⟩) (.int .i64 0) m := by
  unfold lp3
  refine loopA_of (fun l0 ds m' => ds = [] ∧ KeepX m b m' ∧ ∃ (i : Nat) (l : List Int), i ≤ 5 ∧ ({ x with pa := l } : BatD).Sz ∧ Own m' b ({ x with pa := l } : BatD).cells 0 ∧ l0 = [q3, .pointer (some ⟨b, 0, none⟩), .agg ⟨ints mi⟩, .int .i64 i])
    (fun l _ => match l with | [_, _, _, .int _ i] => 5 - i.toNat | _ => 0) ⟨rfl, .refl m b, 0, x.pa, by omega, hx, ho, rfl⟩ ?_
  rintro X ρ ds m' ⟨rfl, hkp, i, l, hi, hx1, ho1, hll⟩ hX
  simp only [List.map_cons, List.map_nil, List.cons.injEq, and_true] at hll
  obtain ⟨p3, p7, p183, p184⟩ := hll
  simp only [p3, p7, p183, p184, cb_lss, pop_some]
  by_cases hci : i < 5
  · have hc' : decide ((i : Int) < (5 : Int)) = true := by simpa using (by omega : (i : Int) < 5)
    rw [hc', cnd_true, cix99 mi hmi hci, pop_some]
    refine alw_of ze59 fun b9 m1 hle1 hb9 ho9 => store_own ho9 (by simp [toL, sz59]) (by simp [toL]) rfl fun m2 hn2 hx2 ho9 => ?_
    simp only [toL] at ho9
    have hle2 := le_of_put hle1 hb9 hn2 hx2
    have hkp2 := hkp.le hle2
    replace ho1 := ho1.le hle2
    have hgw : ({ x with pa := l } : BatD).cells[3]? = some (.int .i64 x.w) := rfl
    rw [fz59_0, pop_some, ldi ho9 rfl, pop_some]
    simp only [cnilc, fz101_1, pop_some]
    rw [ldi ho1 hgw]
    simp only [pop_some]
    rw [cb_quo hw]
    simp only [pop_some]
    obtain ⟨n1, hn1⟩ := cmm_min (a := 1000000) (b := IntKind.i64.wrap ((mi.getD (i * 2) 0).tdiv x.w))
    rw [hn1]
    simp only [pop_some, fz59_1]
    rw [ldi ho9 rfl]
    simp only [pop_some, cb_add, cb_sub]
    rw [cb_quo hw]
    simp only [pop_some]
    obtain ⟨n2, hn2'⟩ := cmm_min (a := 1000000) (b := IntKind.i64.wrap ((IntKind.i64.wrap (IntKind.i64.wrap (mi.getD (i * 2 + 1) 0 + x.w) - 1)).tdiv x.w))
    rw [hn2']
    simp only [pop_some]
    rw [hcb59]
    simp only [pop_some, fz101_4, cia99 _ _ hci]
    refine ho1.store (by simp [toL, sz59]) (by simp [toL, BatD.len hx1]; omega) rfl fun m3 hn3 hx3 ho3 => ?_
    obtain ⟨e1, e2⟩ := BatD.setP2 hx1 (j := i * 2) (by omega) n1 n2
    simp only [toL] at ho3
    rw [e1] at ho3
    rw [wrap_id (n := (i : Int) + 1) (by omega) (by omega)]
    refine hX _ _ _ ⟨rfl, hkp2.put hn3 hx3, i + 1, _, by omega, e2, ho3, by simp⟩ ?_
    simp only [List.map_cons, List.map_nil, p184]; omega
  · have hc' : decide ((i : Int) < (5 : Int)) = false := by simpa using (by omega : ¬ (i : Int) < 5)
    rw [hc', cnd_false]
    exact hE m' l hkp hx1 ho1
end Go.Proofs.YtclgfagkaklnnaaGreat.C
end

section
open Go Go.Proofs Go.Proofs.YtclgfagkaklnnaaGreat
set_option maxRecDepth 100000
namespace Go.Proofs.YtclgfagkaklnnaaGreat.C
/-- Which blocks are which: the shop's, the list's, the list's row, the batches', the new batch's. -/
structure Sep (lo t2 t4 : Nat) (bn : Option Nat) (bs : List Nat) (b : Nat) : Prop where
  s2 : lo ≤ t2
  s4 : lo ≤ t4
  sn : ∀ y, bn = some y → lo ≤ y ∧ y ≠ t2 ∧ y ≠ t4 ∧ y ∉ bs ∧ y ≠ b
  t24 : t2 ≠ t4
  ss : ∀ y ∈ bs, lo ≤ y ∧ y ≠ t2 ∧ y ≠ t4 ∧ y ≠ b
  sb : lo ≤ b ∧ b ≠ t2 ∧ b ≠ t4
  nd : bs.Pairwise (· ≠ ·)
structure St (d : ShopD) (e : BatsD) (m0 : CM) (t2 t4 : Nat) (va : Value) (bn : Option Nat) (bs : List Nat) (b : Nat) (x : BatD) (xs : Nat → BatD) (m : CM) : Prop where
  le : m0.le m
  o2 : Own m t2 d.cells 0
  o4 : Own m t4 [va] 0
  hv : HV m va bn (ptrs bs)
  ob : Own m b x.cells 0
  own : ∀ j c, bs[j]? = some c → Own m c (xs j).cells 0
  ok : ∀ j, j < bs.length → BatOk d e j (xs j)
theorem Own.keepX {m m' : CM} {b c s : Nat} {l : List Value} (h : Own m c l s) (k : KeepX m b m') (hne : c ≠ b) : Own m' c l s := ⟨Nat.lt_of_lt_of_le h.1 k.1, by rw [k.2 c h.1 hne]; exact h.2⟩
theorem le_keepX {m0 m m' : CM} {b : Nat} (h : m0.le m) (k : KeepX m b m') (hb : m0.next ≤ b) : m0.le m' := ⟨Nat.le_trans h.1 k.1, fun y hy => by rw [k.2 y (Nat.lt_of_lt_of_le hy h.1) (by omega)]; exact h.2 y hy⟩
section
variable {d : ShopD} {e : BatsD} {m0 : CM} {t2 t4 : Nat} {va : Value} {bn : Option Nat} {bs : List Nat} {b : Nat} {x : BatD} {xs : Nat → BatD} {m m' : CM}
theorem St.step (h : St d e m0 t2 t4 va bn bs b x xs m) (s : Sep m0.next t2 t4 bn bs b) (k : KeepX m b m') {x' : BatD} (ho : Own m' b x'.cells 0) : St d e m0 t2 t4 va bn bs b x' xs m' :=
  ⟨le_keepX h.le k s.sb.1, Own.keepX h.o2 k s.sb.2.1.symm, Own.keepX h.o4 k s.sb.2.2.symm, h.hv.of_get k.1 (fun y hy => k.2 y (h.hv.lt hy) (s.sn y hy).2.2.2.2), ho, fun j c hc => Own.keepX (h.own j c hc) k (s.ss c (List.mem_of_getElem? hc)).2.2.2, h.ok⟩
theorem St.le' (h : St d e m0 t2 t4 va bn bs b x xs m) (k : m.le m') : St d e m0 t2 t4 va bn bs b x xs m' :=
  ⟨h.le.trans k, h.o2.le k, h.o4.le k, HV.of_get h.hv k.1 (fun y hy => k.2 y (h.hv.lt hy)), h.ob.le k, fun j c hc => (h.own j c hc).le k, h.ok⟩
/-- One of the batches is written. -/
theorem St.stepJ (h : St d e m0 t2 t4 va bn bs b x xs m) (s : Sep m0.next t2 t4 bn bs b) {i c : Nat} (hc : bs[i]? = some c) {x' : BatD} (k : KeepX m c m') (ho : Own m' c x'.cells 0) (hx : BatOk d e i x') :
    St d e m0 t2 t4 va bn bs b x (fun j => if j = i then x' else xs j) m' := by
  have hcm := List.mem_of_getElem? hc
  obtain ⟨g1, g2, g3, g4⟩ := s.ss c hcm
  refine ⟨le_keepX h.le k g1, Own.keepX h.o2 k g2.symm, Own.keepX h.o4 k g3.symm, h.hv.of_get k.1 (fun y hy => k.2 y (h.hv.lt hy) (fun e => (s.sn y hy).2.2.2.1 (by rw [e]; exact hcm))), Own.keepX h.ob k g4.symm, fun j c' hc' => ?_, fun j hj => ?_⟩
  · by_cases hj : j = i
    · subst hj
      rw [hc] at hc'; cases hc'
      simp only [if_true]; exact ho
    · simp only [if_neg hj]
      refine Own.keepX (h.own j c' hc') k fun e => hj ?_
      subst e
      obtain ⟨h1, h2⟩ := List.getElem?_eq_some_iff.1 hc
      obtain ⟨h3, h4⟩ := List.getElem?_eq_some_iff.1 hc'
      have hp := List.pairwise_iff_getElem.1 s.nd
      rcases Nat.lt_trichotomy i j with h5 | h5 | h5
      · exact absurd (h2.trans h4.symm) (hp i j h1 h3 h5)
      · exact h5.symm
      · exact absurd (h4.trans h2.symm) (hp j i h3 h1 h5)
  · by_cases hj' : j = i
    · subst hj'; simp only [if_true]; exact hx
    · simp only [if_neg hj']; exact h.ok j hj
end
end Go.Proofs.YtclgfagkaklnnaaGreat.C
end

section
open Go Go.Proofs Go.Proofs.YtclgfagkaklnnaaGreat
set_option maxRecDepth 100000
namespace Go.Proofs.YtclgfagkaklnnaaGreat.C
theorem cslice99 (m : CM) (c o : Nat) {n : Nat} (hn : n ≤ 5) : cslice Tryz.prog 99 (.pointer (some ⟨c, o, none⟩)) none (some (.int .i64 n)) none m = some (.slice (some ⟨c, o, none⟩) n 6) := by
  have hu : Tryz.prog.underlying 99 = some (.array 5 59) := Tryz.underlying99
  simp [cslice, hu, sz59, bnd, hn]
theorem slW_arr {m : CM} {c o n : Nat} {row : Nat → List Value} (h : ∀ i, i < n → Cel m c (o + i * 2) (row i) ∧ (row i).length = 2) : SlW 63 2 m (.slice (some ⟨c, o, none⟩) n 6) n row :=
  ⟨fun m' => by simp [clen, Tryz.underlying63, goInt], fun i hi => ⟨c, o + i * 2, by simp [cia, Tryz.underlying63, sz59, hi], (h i hi).1, (h i hi).2⟩⟩
def partRow (x : BatD) (i : Nat) : List Value := [.int .i64 (x.pa.getD (i * 2) 0), .int .i64 (x.pa.getD (i * 2 + 1) 0)]
theorem slW_parts {m : CM} {c n : Nat} {x : BatD} (hx : x.Sz) (ho : Own m c x.cells 0) (hn : n ≤ 5) : SlW 63 2 m (.slice (some ⟨c, 15, none⟩) n 6) n (partRow x) :=
  slW_arr fun i hi => ⟨⟨ho.1, _, _, _, ho.2, fun j hj => by
    have hj2 : j = 0 ∨ j = 1 := by simp [partRow] at hj; omega
    rcases hj2 with rfl | rfl
    · have := BatD.getP hx (j := i * 2) (by omega)
      simpa [partRow] using this
    · have := BatD.getP hx (j := i * 2 + 1) (by omega)
      rw [← Nat.add_assoc] at this
      simpa [partRow] using this⟩, rfl⟩
end Go.Proofs.YtclgfagkaklnnaaGreat.C
end

section
open Go Go.Proofs Go.Proofs.YtclgfagkaklnnaaGreat
set_option maxRecDepth 100000
namespace Go.Proofs.YtclgfagkaklnnaaGreat.C
theorem dgs_k {X : (Value → Prop) → Prop} {K : Value → Prop} (h : X K) : dgs (some true) X K := ⟨h⟩
/-- Behind the loop over what came back. -/
def ex2 (R : CE → CM → Prop) (q3 q7 q11 : Value) (m : CM) : Prop :=
  pop (cnilc q7) m (fun t174 m => pop (cfa Tryz.prog 101 1 t174) m (fun t175 m => pop (cload Tryz.prog 3 t175 m) m (fun t176 m => pop (cbin Tryz.prog BinOp.eql 3 (Operand.tmp 176) (Operand.const (Value.int IntKind.i64 0)) t176 (.int .i64 0)) m (fun t177 m => cnd t177 (leaveV Tryz.prog [.v (.int .i64 8)] [] .ret m R) (cnd q11 (leaveV Tryz.prog [.v (.int .i64 9)] [] .ret m R) (pop (cnilc q7) m (fun t181 m => pop (cfa Tryz.prog 101 3 t181) m (fun t182 m => pop (cload Tryz.prog 99 t182 m) m (fun t183 m => lp3 R q3 q7 t183 (.int .i64 0) m)))))))))
theorem lp2_ok {R : CE → CM → Prop} {d : ShopD} {e : BatsD} {m0 : CM} {t2 t4 : Nat} {va : Value} {bn : Option Nat} {bs : List Nat} {b : Nat} {x : BatD} {xs : Nat → BatD} {m : CM} (s : Sep m0.next t2 t4 bn bs b) (h : St d e m0 t2 t4 va bn bs b x xs m) (hd : d.In m0) (hdo : d.Ok) (he : e.In m0)
    (hkn : bs.length < e.n) (hkb : e.kn bs.length ≤ bs.length) (hb6 : bs.length ≤ 6) (hkx : ∀ i, i < e.kn bs.length → 0 ≤ e.kx bs.length i ∧ e.kx bs.length i ≤ 100000) (hx : x.Sz) (hw : 0 ≤ x.w ∧ x.w ≤ 1000000)
    (hE : ∀ m' w mi xs' ov, St d e m0 t2 t4 va bn bs b { x with w := w, mi := mi } xs' m' → ({ x with w := w, mi := mi } : BatD).Sz → 0 ≤ w ∧ w ≤ 2000000 → ex2 R (.pointer (some ⟨t4, 0, none⟩)) (.pointer (some ⟨b, 0, none⟩)) (.bool ov) m') :
    lp2 R (.pointer (some ⟨t2, 0, none⟩)) (.pointer (some ⟨t4, 0, none⟩)) (.int .i64 0) (.pointer (some ⟨b, 0, none⟩)) (.bool false) (e.k bs.length) (.int .i64 (e.kn bs.length)) (.int .i64 0) m := by
  unfold lp2
  refine loopA_of (fun l0 ds m' => ds = [] ∧ ∃ (i : Nat) (w : Int) (mi : List Int) (xs' : Nat → BatD) (ov : Bool), i ≤ e.kn bs.length ∧ St d e m0 t2 t4 va bn bs b { x with w := w, mi := mi } xs' m' ∧ ({ x with w := w, mi := mi } : BatD).Sz ∧ (0 ≤ w ∧ w ≤ 1000000 + i * 100000) ∧ l0 = [.pointer (some ⟨t2, 0, none⟩), .pointer (some ⟨t4, 0, none⟩), .int .i64 0, .pointer (some ⟨b, 0, none⟩), .bool ov, e.k bs.length, .int .i64 (e.kn bs.length), .int .i64 i])
    (fun l _ => match l with | [_, _, _, _, _, _, _, .int _ i] => e.kn bs.length - i.toNat | _ => 0) ⟨rfl, 0, x.w, x.mi, xs, false, by omega, h, hx, by omega, rfl⟩ ?_
  clear h
  rintro X ρ ds m' ⟨rfl, i, w, mi, xs', ov, hi, h, hz, hw', hll⟩ hX
  simp only [List.map_cons, List.map_nil, List.cons.injEq, and_true] at hll
  obtain ⟨p2, p3, p6, p7, p11, p114, p115, p116⟩ := hll
  simp only [p2, p3, p6, p7, p11, p114, p115, p116, cb_lss, pop_some]
  by_cases hci : i < e.kn bs.length
  · have hc' : decide ((i : Int) < (e.kn bs.length : Int)) = true := by simpa using hci
    obtain ⟨bx, ox, hia, hcel, hlen⟩ := ((he.le h.le).sk _ hkn).at Tryz.underlying28 sz3 (i := i) (by omega) (by omega)
    simp only [Int.toNat_natCast] at hcel hlen
    rw [hc', cnd_true, hia, pop_some, hcel.elv ag3 sz3 hlen (by decide), pop_some]
    show pop (cnilc (.pointer (some ⟨b, 0, none⟩))) m' _
    simp only [cnilc, fz101_1, pop_some, elv, List.headD]
    rw [ldi h.ob (n := w) rfl]
    simp only [pop_some, cb_add]
    have hx1 := hkx i hci
    rw [wrap_id (n := w + e.kx bs.length i) (by omega) (by omega)]
    refine h.ob.store (by simp [toL, sz3]) (by simp [toL, BatD.len hz]) rfl fun m1 hn1 hx1' ho1 => ?_
    obtain ⟨e1, e2⟩ := BatD.setW hz (w + e.kx bs.length i)
    simp only [toL] at ho1
    rw [e1] at ho1
    have h1 := h.step s ((KeepX.refl m' b).put hn1 hx1') ho1
    have hib : i < bs.length := by omega
    obtain ⟨c, hc⟩ : ∃ c, bs[i]? = some c := ⟨_, List.getElem?_eq_getElem hib⟩
    have hok := h1.ok i hib
    have hoc := h1.own i c hc
    obtain ⟨q1, q2, q3, q4⟩ := s.ss c (List.mem_of_getElem? hc)
    have lva : ∀ {m2 : CM} {x2 : BatD} {xs2 : Nat → BatD}, St d e m0 t2 t4 va bn bs b x2 xs2 m2 → cload Tryz.prog 91 (.pointer (some ⟨t4, 0, none⟩)) m2 = some va := fun h => h.o4.cel.z ag91 (j := 0) rfl
    have lel : ∀ {m2 : CM} {x2 : BatD} {xs2 : Nat → BatD}, St d e m0 t2 t4 va bn bs b x2 xs2 m2 → ∃ bx ox, cia Tryz.prog 91 va (.int .i64 i) = some (.pointer (some ⟨bx, ox, none⟩)) ∧ cload Tryz.prog 94 (.pointer (some ⟨bx, ox, none⟩)) m2 = some (.pointer (some ⟨c, 0, none⟩)) := fun h => by
      obtain ⟨by', oy, hia', hcel', hlen'⟩ := h.hv.sl.at Tryz.underlying91 sz94 (i := i) (by omega) (by simp [ptrs]; omega)
      refine ⟨by', oy, hia', ?_⟩
      have hg : (ptrs bs).getD i undef = .pointer (some ⟨c, 0, none⟩) := by simp [ptrs, List.getD_eq_getElem?_getD, hc]
      simp only [Int.toNat_natCast] at hcel' hlen'
      have := hcel'.elv ag94 sz94 hlen' (by decide)
      rw [this, hg]; rfl
    obtain ⟨by1, oy1, g1, g2⟩ := lel h1
    rw [lva h1, pop_some, g1, pop_some, g2, pop_some]
    simp only [cnilc, fz101_4, fz25_0, pop_some]
    rw [h1.o2.cel.z ag22 (j := 0) rfl]
    simp only [pop_some]
    rw [(hd.le h1.le).st.len Tryz.underlying22]
    simp only [pop_some]
    rw [cslice99 _ _ _ hdo.nt1.2]
    simp only [pop_some]
    refine pour90 e2 ho1 (v := .slice (some ⟨c, 15, none⟩) d.nt 6) (n := d.nt) (row := partRow (xs' i)) (fun m2 hk2 => slW_parts hok.sz (Own.keepX hoc hk2 q4) hdo.nt1.2) hdo.nt1.2 (fun j hj => ⟨_, _, rfl⟩) fun m2 mi2 hk2 hz2 ho2 => ?_
    have h2 := h1.step s hk2 ho2
    obtain ⟨by2, oy2, g3, g4⟩ := lel h2
    rw [lva h2, pop_some, g3, pop_some, g4, pop_some]
    simp only [cnilc, fz101_2, pop_some]
    have hoc2 := h2.own i c hc
    rw [ldi hoc2 (n := (xs' i).t) rfl]
    simp only [pop_some, cb_add]
    refine hoc2.store (by simp [toL, sz3]) (by simp [toL, BatD.len hok.sz]) rfl fun m3 hn3 hx3 ho3 => ?_
    obtain ⟨f1, f2⟩ := BatD.setT hok.sz (IntKind.i64.wrap ((xs' i).t + e.kx bs.length i))
    simp only [toL] at ho3
    rw [f1] at ho3
    have h3 := h2.stepJ s hc ((KeepX.refl m2 c).put hn3 hx3) ho3 ⟨hok.vg, hok.vb, hok.va, f2, hok.gn, hok.kn, hok.an, hok.gx, hok.kx, hok.ar, hok.w⟩
    have hnext : ∀ ov', X [.pointer (some ⟨t2, 0, none⟩), .pointer (some ⟨t4, 0, none⟩), .int .i64 0, .pointer (some ⟨b, 0, none⟩), .bool ov', e.k bs.length, .int .i64 (e.kn bs.length), .int .i64 (IntKind.i64.wrap ((i : Int) + 1))] [] m3 := by
      intro ov'
      rw [wrap_id (n := (i : Int) + 1) (by omega) (by omega)]
      refine hX _ _ _ ⟨rfl, i + 1, _, _, _, ov', by omega, h3, hz2, by push_cast; omega, by simp⟩ ?_
      simp only [List.map_cons, List.map_nil, p116]; omega
    cases ov with
    | true =>
      simp only [gb_bool, Bool.true_beq, dgs_false, gop_false, cpick_bool, if_true, pop_some]
      exact hnext true
    | false =>
      simp only [gb_bool, beq_self_eq_true, dgs_true, gop_true, cpick_bool, Bool.false_eq_true, if_false, pop_some]
      obtain ⟨by3, oy3, g5, g6⟩ := lel h3
      rw [lva h3]
      simp only [pop_some]
      rw [g5]
      simp only [pop_some]
      rw [g6]
      simp only [pop_some, fz101_1, fz101_2]
      have hoc3 := h3.own i c hc
      simp only [if_true] at hoc3
      rw [ldi hoc3 (n := IntKind.i64.wrap ((xs' i).t + e.kx bs.length i)) rfl]
      simp only [pop_some]
      rw [ldi hoc3 (n := (xs' i).w) rfl]
      simp only [pop_some, cb_gtr]
      exact hnext _
  · have hc' : decide ((i : Int) < (e.kn bs.length : Int)) = false := by simpa using hci
    rw [hc', cnd_false]
    exact hE m' w mi xs' ov h hz (by omega)
end Go.Proofs.YtclgfagkaklnnaaGreat.C
end

section
open Go Go.Proofs Go.Proofs.YtclgfagkaklnnaaGreat
set_option maxRecDepth 100000
namespace Go.Proofs.YtclgfagkaklnnaaGreat.C
theorem lp1_ok {R : CE → CM → Prop} {d : ShopD} {e : BatsD} {m0 : CM} {t2 t4 : Nat} {va : Value} {bn : Option Nat} {bs : List Nat} {b : Nat} {x : BatD} {xs : Nat → BatD} {m : CM} (s : Sep m0.next t2 t4 bn bs b) (h : St d e m0 t2 t4 va bn bs b x xs m) (hd : d.In m0) (hdo : d.Ok) (he : e.In m0)
    (hkn : bs.length < e.n) (hkb : e.kn bs.length ≤ bs.length) (hb6 : bs.length ≤ 6) (hgn : e.gn bs.length = d.nl) (hgx : ∀ i, i < e.gn bs.length → 0 ≤ e.gx bs.length i ∧ e.gx bs.length i ≤ 100000)
    (hkx : ∀ i, i < e.kn bs.length → 0 ≤ e.kx bs.length i ∧ e.kx bs.length i ≤ 100000) (hx : x.Sz) (hw : x.w = 0) (hvb : x.vb = e.k bs.length)
    (hE : ∀ m' w mi xs' ov, St d e m0 t2 t4 va bn bs b { x with w := w, mi := mi } xs' m' → ({ x with w := w, mi := mi } : BatD).Sz → 0 ≤ w ∧ w ≤ 2000000 → ex2 R (.pointer (some ⟨t4, 0, none⟩)) (.pointer (some ⟨b, 0, none⟩)) (.bool ov) m') :
    lp1 R (.pointer (some ⟨t2, 0, none⟩)) (.pointer (some ⟨t4, 0, none⟩)) (.int .i64 0) (.pointer (some ⟨b, 0, none⟩)) (e.g bs.length) (.int .i64 (e.gn bs.length)) (.int .i64 0) m := by
  unfold lp1
  have hnl := hdo.nl1
  refine loopA_of (fun l0 ds m' => ds = [] ∧ ∃ (i : Nat) (w : Int) (mi : List Int), i ≤ e.gn bs.length ∧ St d e m0 t2 t4 va bn bs b { x with w := w, mi := mi } xs m' ∧ ({ x with w := w, mi := mi } : BatD).Sz ∧ (0 ≤ w ∧ w ≤ i * 100000) ∧ l0 = [.pointer (some ⟨t2, 0, none⟩), .pointer (some ⟨t4, 0, none⟩), .int .i64 0, .pointer (some ⟨b, 0, none⟩), e.g bs.length, .int .i64 (e.gn bs.length), .int .i64 i])
    (fun l _ => match l with | [_, _, _, _, _, _, .int _ i] => e.gn bs.length - i.toNat | _ => 0) ⟨rfl, 0, x.w, x.mi, by omega, h, hx, by omega, rfl⟩ ?_
  clear h
  rintro X ρ ds m' ⟨rfl, i, w, mi, hi, h, hz, hw', hll⟩ hX
  simp only [List.map_cons, List.map_nil, List.cons.injEq, and_true] at hll
  obtain ⟨p2, p3, p6, p7, p85, p86, p87⟩ := hll
  simp only [p2, p3, p6, p7, p85, p86, p87, cb_lss, pop_some]
  by_cases hci : i < e.gn bs.length
  · have hc' : decide ((i : Int) < (e.gn bs.length : Int)) = true := by simpa using hci
    obtain ⟨bx, ox, hia, hcel, hlen⟩ := ((he.le h.le).sg _ hkn).at Tryz.underlying28 sz3 (i := i) (by omega) (by omega)
    simp only [Int.toNat_natCast] at hcel hlen
    rw [hc', cnd_true, hia, pop_some, hcel.elv ag3 sz3 hlen (by decide), pop_some]
    show pop (cnilc (.pointer (some ⟨b, 0, none⟩))) m' _
    simp only [cnilc, fz101_1, pop_some, elv, List.headD]
    rw [ldi h.ob (n := w) rfl]
    simp only [pop_some, cb_add]
    have hx1 := hgx i hci
    rw [wrap_id (n := w + e.gx bs.length i) (by omega) (by omega)]
    refine h.ob.store (by simp [toL, sz3]) (by simp [toL, BatD.len hz]) rfl fun m1 hn1 hx1' ho1 => ?_
    obtain ⟨e1, e2⟩ := BatD.setW hz (w + e.gx bs.length i)
    simp only [toL] at ho1
    rw [e1] at ho1
    have h1 := h.step s ((KeepX.refl m' b).put hn1 hx1') ho1
    simp only [fz25_1, pop_some]
    rw [h1.o2.cel.z ag23 (j := 1) rfl]
    simp only [pop_some]
    obtain ⟨by1, oy1, hia1, hcel1, hlen1⟩ := (hd.le h1.le).sl.at Tryz.underlying23 sz85 (i := i) (by omega) (by omega)
    simp only [Int.toNat_natCast] at hcel1 hlen1
    rw [hia1]
    simp only [pop_some, fa85_1]
    rw [hcel1.s ag63 (j := 1) rfl]
    simp only [pop_some]
    have hln := hdo.lot i (by omega)
    have hnt5 : d.ln i ≤ 5 := by have := hdo.nt1; omega
    refine pour90 e2 ho1 (v := d.lv i) (n := d.ln i) (row := d.lr i) (fun m2 hk2 => Sl.w (Sl.le (hd.sp i (by omega)) (le_keepX h1.le hk2 s.sb.1)) Tryz.underlying63 sz59) hnt5 (fun j hj => hd.lr0 i (by omega) j hj) fun m2 mi2 hk2 hz2 ho2 => ?_
    have h2 := h1.step s hk2 ho2
    rw [wrap_id (n := (i : Int) + 1) (by omega) (by omega)]
    refine hX _ _ _ ⟨rfl, i + 1, _, _, by omega, h2, hz2, by push_cast; omega, by simp⟩ ?_
    simp only [List.map_cons, List.map_nil, p87]; omega
  · have hc' : decide ((i : Int) < (e.gn bs.length : Int)) = false := by simpa using hci
    rw [hc', cnd_false]
    simp only [cnilc, fz101_0, fz97_1, pop_some]
    rw [h.ob.cel.z ag28 (j := 1) rfl]
    simp only [pop_some]
    rw [show ({ x with w := w, mi := mi } : BatD).vb = e.k bs.length from hvb, ((he.le h.le).sk _ hkn).len Tryz.underlying28]
    simp only [pop_some]
    exact lp2_ok s h hd hdo he hkn hkb hb6 hkx hz ⟨hw'.1, by have := hw'.2; show w ≤ 1000000; omega⟩ fun m2 w2 mi2 xs2 ov h2 hz2 hw2 => hE m2 w2 mi2 xs2 ov h2 hz2 hw2
end Go.Proofs.YtclgfagkaklnnaaGreat.C
end

section
open Go Go.Proofs Go.Proofs.YtclgfagkaklnnaaGreat
set_option maxRecDepth 100000
namespace Go.Proofs.YtclgfagkaklnnaaGreat.C
/-- The state between two batches. -/
structure Bt (d : ShopD) (e : BatsD) (m0 : CM) (t2 t4 : Nat) (va : Value) (bn : Option Nat) (bs : List Nat) (xs : Nat → BatD) (m : CM) : Prop where
  le : m0.le m
  o2 : Own m t2 d.cells 0
  o4 : Own m t4 [va] 0
  hv : HV m va bn (ptrs bs)
  own : ∀ j c, bs[j]? = some c → Own m c (xs j).cells 0
  ok : ∀ j, j < bs.length → BatOk d e j (xs j)
  s2 : m0.next ≤ t2
  s4 : m0.next ≤ t4
  sn : ∀ y, bn = some y → m0.next ≤ y ∧ y ≠ t2 ∧ y ≠ t4 ∧ y ∉ bs
  t24 : t2 ≠ t4
  ss : ∀ y ∈ bs, m0.next ≤ y ∧ y ≠ t2 ∧ y ≠ t4
  nd : bs.Pairwise (· ≠ ·)
section
variable {d : ShopD} {e : BatsD} {m0 : CM} {t2 t4 : Nat} {va : Value} {bn : Option Nat} {bs : List Nat} {b : Nat} {x : BatD} {xs : Nat → BatD} {m m' : CM}
theorem Bt.le' (h : Bt d e m0 t2 t4 va bn bs xs m) (k : m.le m') : Bt d e m0 t2 t4 va bn bs xs m' :=
  ⟨h.le.trans k, h.o2.le k, h.o4.le k, HV.of_get h.hv k.1 (fun y hy => k.2 y (h.hv.lt hy)), fun j c hc => (h.own j c hc).le k, h.ok, h.s2, h.s4, h.sn, h.t24, h.ss, h.nd⟩
theorem Bt.lt (h : Bt d e m0 t2 t4 va bn bs xs m) {y : Nat} (hy : y ∈ bs) : y < m.next := by
  obtain ⟨j, hj⟩ := List.getElem?_of_mem hy
  exact (h.own j y hj).1
/-- A new batch beside. -/
theorem Bt.new (h : Bt d e m0 t2 t4 va bn bs xs m) (hl : m.le m') (hb : m.next ≤ b) (ho : Own m' b x.cells 0) : St d e m0 t2 t4 va bn bs b x xs m' ∧ Sep m0.next t2 t4 bn bs b :=
  ⟨⟨(h.le' hl).le, (h.le' hl).o2, (h.le' hl).o4, (h.le' hl).hv, ho, (h.le' hl).own, h.ok⟩,
   ⟨h.s2, h.s4, fun y hy => ⟨(h.sn y hy).1, (h.sn y hy).2.1, (h.sn y hy).2.2.1, (h.sn y hy).2.2.2, by have := h.hv.lt hy; omega⟩, h.t24, fun y hy => ⟨(h.ss y hy).1, (h.ss y hy).2.1, (h.ss y hy).2.2, by have := h.lt hy; omega⟩,
    ⟨Nat.le_trans h.le.1 hb, by have := h.o2.1; omega, by have := h.o4.1; omega⟩, h.nd⟩⟩
def InvB (d : ShopD) (e : BatsD) (m0 : CM) (t2 t4 : Nat) (k : Nat) (m : CM) : Prop := ∃ va bn bs xs, bs.length = k ∧ Bt d e m0 t2 t4 va bn bs xs m
def ErrB (m0 : CM) (t4 : Nat) (m : CM) : Prop := m0.le m ∧ ∃ v, Own m t4 [v] 0
theorem micro_of {x : BatD} (h : x.Sz) : (x.cells.drop 5).take 10 = ints x.mi := by
  simp [BatD.cells, ints_len, h.mi]
theorem ex2_ok {K : Value → CM → Prop} {Kp : List PanicEntry → CM → Prop} (s : Sep m0.next t2 t4 bn bs b) (h : St d e m0 t2 t4 va bn bs b x xs m) (hx : x.Sz) (hw : 0 ≤ x.w ∧ x.w ≤ 2000000) (hb6 : bs.length ≤ 6)
    (hok : ∀ x' : BatD, x'.vg = x.vg → x'.vb = x.vb → x'.va = x.va → x'.w = x.w → x'.Sz → x.w ≠ 0 → BatOk d e bs.length x') {ov : Bool}
    (hK : ∀ m' (c : Int), (c = 0 → InvB d e m0 t2 t4 (bs.length + 1) m') → (c ≠ 0 → ErrB m0 t4 m') → K (.int .i64 c) m') :
    ex2 (RK K Kp) (.pointer (some ⟨t4, 0, none⟩)) (.pointer (some ⟨b, 0, none⟩)) (.bool ov) m := by
  unfold ex2
  simp only [cnilc, fz101_1, pop_some]
  rw [ldi h.ob (n := x.w) rfl]
  simp only [pop_some, cb_eql]
  cases hz : (x.w == 0) with
  | true =>
    rw [cnd_true, leave1, RK_ret]
    exact hK m 8 (fun h => absurd h (by decide)) fun _ => ⟨h.le, _, h.o4⟩
  | false =>
  have hw0 : x.w ≠ 0 := by simpa using hz
  rw [cnd_false]
  cases ov with
  | true =>
    rw [cnd_true, leave1, RK_ret]
    exact hK m 9 (fun h => absurd h (by decide)) fun _ => ⟨h.le, _, h.o4⟩
  | false =>
  rw [cnd_false]
  simp only [fz101_3, pop_some]
  rw [h.ob.cel.za ag99 (k := 10) sz99 (j := 5) (by rw [BatD.len hx]; omega), micro_of hx]
  simp only [pop_some]
  refine lp3_ok hx h.ob hw0 hx.mi fun m2 l hkp hz2 ho2 => ?_
  have h2 := h.step s hkp ho2
  unfold ex3
  rw [h2.o4.cel.z ag91 (j := 0) rfl, pop_some]
  refine app1 Tryz.underlying91 sz94 ze94 ap91 by94 (by decide) (by decide) h2.hv rfl (by simp [ptrs, lim]; omega) fun b' m3 hb' hn3 hx3 ho' => ?_
  have hb4 := h2.o4.1
  have o43 : Own m3 t4 [va] 0 := ⟨by omega, by rw [hx3 t4 hb4 (fun e => (s.sn _ e).2.2.1 rfl)]; exact h2.o4.2⟩
  refine o43.store (by simp [toL, sz91]) (by simp [toL]) rfl fun m4 hn4 hx4 ho4 => ?_
  rw [leave1, RK_ret]
  refine hK m4 0 (fun _ => ?_) (fun h => absurd rfl h)
  have hg : ∀ y, y < m2.next → y ≠ t4 → bn ≠ some y → m4.get y = m2.get y := fun y h1 h2 h3 => by rw [hx4 y h2, hx3 y h1 h3]
  have hnn : m2.next ≤ m4.next := by rw [hn4]; exact hn3
  have hOwn : ∀ {y : Nat} {c : List Value} {k : Nat}, Own m2 y c k → y ≠ t4 → bn ≠ some y → Own m4 y c k := fun o h1 h2 => ⟨Nat.lt_of_lt_of_le o.1 hnn, by rw [hg _ o.1 h1 h2]; exact o.2⟩
  refine ⟨Value.slice (some ⟨b', 0, none⟩) (ptrs bs ++ [Value.pointer (some ⟨b, 0, none⟩)]).length 0, some b', bs ++ [b], fun j => if j = bs.length then { x with pa := l } else xs j, by simp, ?_⟩
  refine ⟨⟨Nat.le_trans h2.le.1 hnn, fun y hy => ?_⟩, hOwn h2.o2 s.t24 (fun e => (s.sn _ e).2.1 rfl), ho4, ?_, ?_, ?_, s.s2, s.s4, ?_, s.t24, ?_, ?_⟩
  · have := h2.le.1
    rw [hg y (by omega) (by have := s.s4; omega) (fun e => by have := (s.sn _ e).1; omega)]
    exact h2.le.2 y hy
  · have hp : ptrs (bs ++ [b]) = ptrs bs ++ [.pointer (some ⟨b, 0, none⟩)] := by simp [ptrs]
    rw [hp]
    exact .blk ⟨by rw [hn4]; exact ho'.1, by rw [hx4 b' (by omega)]; exact ho'.2⟩
  · intro j c hc
    by_cases hj : j = bs.length
    · subst hj
      simp only [if_true]
      have : c = b := by simpa using hc.symm
      subst this
      exact hOwn h2.ob s.sb.2.2 (fun e => (s.sn _ e).2.2.2.2 rfl)
    · simp only [if_neg hj]
      have hlt : j < (bs ++ [b]).length := (List.getElem?_eq_some_iff.1 hc).1
      have hj' : j < bs.length := by simp at hlt; omega
      rw [List.getElem?_append_left hj'] at hc
      have hm := List.mem_of_getElem? hc
      exact hOwn (h2.own j c hc) (s.ss c hm).2.2.1 (fun e => (s.sn _ e).2.2.2.1 hm)
  · intro j hj
    by_cases hj' : j = bs.length
    · subst hj'
      simp only [if_true]
      exact hok _ rfl rfl rfl rfl hz2 hw0
    · simp only [if_neg hj']
      exact h2.ok j (by simp at hj; omega)
  · intro y hy
    cases hy
    refine ⟨Nat.le_trans h2.le.1 hb', ?_, ?_, ?_⟩
    · have := h2.o2.1; omega
    · omega
    · intro hm
      simp only [List.mem_append, List.mem_singleton] at hm
      rcases hm with hm | rfl
      · obtain ⟨j, hj⟩ := List.getElem?_of_mem hm
        have := (h2.own j _ hj).1; omega
      · have := h2.ob.1; omega
  · intro y hm
    simp only [List.mem_append, List.mem_singleton] at hm
    rcases hm with hm | rfl
    · exact ⟨(s.ss y hm).1, (s.ss y hm).2.1, (s.ss y hm).2.2.1⟩
    · exact s.sb
  · rw [List.pairwise_append]
    exact ⟨s.nd, by simp, fun a ha c hc => by simp at hc; subst hc; exact (s.ss a ha).2.2.2⟩
end
end Go.Proofs.YtclgfagkaklnnaaGreat.C
end

section
open Go Go.Proofs Go.Proofs.YtclgfagkaklnnaaGreat
set_option maxRecDepth 100000
namespace Go.Proofs.YtclgfagkaklnnaaGreat.C
theorem hcb101 (g k a : Value) : cbuild Tryz.prog 101 [(0, .agg ⟨[g, k, a]⟩)] = some (.agg ⟨[g, k, a, .int .i64 0, .int .i64 0, .int .i64 0, .int .i64 0, .int .i64 0, .int .i64 0, .int .i64 0, .int .i64 0, .int .i64 0, .int .i64 0, .int .i64 0, .int .i64 0, .int .i64 0, .int .i64 0, .int .i64 0, .int .i64 0, .int .i64 0, .int .i64 0, .int .i64 0, .int .i64 0, .int .i64 0, .int .i64 0]⟩) := by kernel_rfl
def newB (g k a : Value) : BatD := ⟨g, k, a, 0, 0, List.replicate 10 0, List.replicate 10 0⟩
section
variable {d : ShopD} {e : BatsD} {m0 : CM} {t2 t4 : Nat} {va : Value} {bn : Option Nat} {bs : List Nat} {b : Nat} {x : BatD} {xs : Nat → BatD} {m m' : CM}
theorem j89_ok {K : Value → CM → Prop} {Kp : List PanicEntry → CM → Prop} (s : Sep m0.next t2 t4 bn bs b) (h : St d e m0 t2 t4 va bn bs b x xs m) (hd : d.In m0) (hdo : d.Ok) (he : e.In m0)
    (hkn : bs.length < e.n) (hkb : e.kn bs.length ≤ bs.length) (hb6 : bs.length ≤ 6) (hgn : e.gn bs.length = d.nl) (han : e.an bs.length = d.nt) (hx : x.Sz) (hw : x.w = 0) (hvg : x.vg = e.g bs.length) (hvb : x.vb = e.k bs.length) (hva : x.va = e.a bs.length) {q : Int}
    (hq : q = 0 → (∀ i, i < e.gn bs.length → 0 ≤ e.gx bs.length i ∧ e.gx bs.length i ≤ 100000) ∧ (∀ i, i < e.kn bs.length → 0 ≤ e.kx bs.length i ∧ e.kx bs.length i ≤ 100000) ∧ SpOk 10000000 (e.an bs.length) (e.ar bs.length))
    (hK : ∀ m' (c : Int), (c = 0 → InvB d e m0 t2 t4 (bs.length + 1) m') → (c ≠ 0 → ErrB m0 t4 m') → K (.int .i64 c) m') :
    j89_0 (RK K Kp) (.int .i64 q) (.pointer (some ⟨b, 0, none⟩)) (.pointer (some ⟨t2, 0, none⟩)) (.pointer (some ⟨t4, 0, none⟩)) (.int .i64 0) m := by
  unfold j89_0
  rw [cb_neq, pop_some]
  cases hqq : (q != 0) with
  | true =>
    rw [cnd_true, leave1, RK_ret]
    exact hK m q (fun h => by simp [h] at hqq) fun _ => ⟨h.le, _, h.o4⟩
  | false =>
  have hq0 : q = 0 := by simpa using hqq
  obtain ⟨hgx, hkx, har⟩ := hq hq0
  rw [cnd_false]
  simp only [cnilc, fz101_0, fz97_2, pop_some]
  rw [h.ob.cel.z ag63 (j := 2) rfl]
  simp only [pop_some]
  have hnt := hdo.nt1
  rw [hva]
  refine pour90 hx h.ob (fun m2 hk2 => Sl.w (Sl.le (he.sa _ hkn) (le_keepX h.le hk2 s.sb.1)) Tryz.underlying63 sz59) (by omega) (he.ar0 _ hkn) fun m2 mi2 hk2 hz2 ho2 => ?_
  have h2 := h.step s hk2 ho2
  simp only [fz97_0, pop_some]
  rw [h2.ob.cel.z ag28 (j := 0) rfl]
  simp only [pop_some]
  rw [show ({ x with mi := mi2 } : BatD).vg = e.g bs.length from hvg, ((he.le h2.le).sg _ hkn).len Tryz.underlying28]
  simp only [pop_some]
  refine lp1_ok s h2 hd hdo he hkn hkb hb6 hgn hgx hkx hz2 hw hvb fun m3 w mi xs' ov h3 hz3 hw3 => ?_
  refine ex2_ok s h3 hz3 hw3 hb6 (fun x' e1 e2 e3 e4 e5 e6 => ?_) hK
  have e4' : x'.w = w := e4
  have e6' : w ≠ 0 := e6
  exact ⟨e1.trans hvg, e2.trans hvb, e3.trans hva, e5, hgn, hkb, han, hgx, hkx, har, by omega⟩
end
end Go.Proofs.YtclgfagkaklnnaaGreat.C
end

section
open Go Go.Proofs Go.Proofs.YtclgfagkaklnnaaGreat
set_option maxRecDepth 100000
namespace Go.Proofs.YtclgfagkaklnnaaGreat.C
section
variable {d : ShopD} {e : BatsD} {m0 : CM} {t2 t4 : Nat} {va : Value} {bn : Option Nat} {bs : List Nat} {b : Nat} {x : BatD} {xs : Nat → BatD} {m m' : CM}
theorem f89_ok {K : Value → CM → Prop} {Kp : List PanicEntry → CM → Prop} (h : Bt d e m0 t2 t4 va bn bs xs m) (hd : d.In m0) (hdo : d.Ok) (he : e.In m0) (hkn : bs.length < e.n) (hb6 : bs.length ≤ 6)
    (hK : ∀ m' (c : Int), (c = 0 → InvB d e m0 t2 t4 (bs.length + 1) m') → (c ≠ 0 → ErrB m0 t4 m') → K (.int .i64 c) m') :
    callw Tryz.prog 89 [.int .i64 bs.length, .agg ⟨[e.g bs.length, e.k bs.length, e.a bs.length]⟩, .pointer (some ⟨t2, 0, none⟩), .pointer (some ⟨t4, 0, none⟩)] m K Kp := by
  apply c89
  unfold s89
  refine box_of fun t5 m1 hle1 hb1 ho1 => ?_
  simp only [toL] at ho1
  rw [lda ho1 ag97 sz97, pop_some, hcb101, pop_some]
  refine box_of fun b m2 hle2 hb2 ho2 => ?_
  have hnb : m.next ≤ b := Nat.le_trans hle1.1 hb2
  replace ho2 : Own m2 b (newB (e.g bs.length) (e.k bs.length) (e.a bs.length)).cells 0 := ho2
  have hx : (newB (e.g bs.length) (e.k bs.length) (e.a bs.length)).Sz := ⟨rfl, rfl⟩
  obtain ⟨h2, s⟩ := h.new (hle1.trans hle2) hnb ho2
  have hg : ∀ {m3 : CM} {x : BatD}, Own m3 b x.cells 0 → x.vg = e.g bs.length → cload Tryz.prog 28 (.pointer (some ⟨b, 0, none⟩)) m3 = some (e.g bs.length) := fun o e => by rw [o.cel.z ag28 (j := 0) rfl, e]
  have hk : ∀ {m3 : CM} {x : BatD}, Own m3 b x.cells 0 → x.vb = e.k bs.length → cload Tryz.prog 28 (.pointer (some ⟨b, 1, none⟩)) m3 = some (e.k bs.length) := fun o e => by rw [o.cel.z ag28 (j := 1) rfl, e]
  have ha : ∀ {m3 : CM} {x : BatD}, Own m3 b x.cells 0 → x.va = e.a bs.length → cload Tryz.prog 63 (.pointer (some ⟨b, 2, none⟩)) m3 = some (e.a bs.length) := fun o e => by rw [o.cel.z ag63 (j := 2) rfl, e]
  simp only [cnilc, fz101_0, fz97_0, fz97_1, fz97_2, fz25_0, fz25_1, pop_some]
  rw [hg h2.ob rfl]
  simp only [pop_some]
  rw [((he.le h2.le).sg _ hkn).len Tryz.underlying28, h2.o2.cel.z ag23 (j := 1) rfl]
  simp only [pop_some]
  rw [(hd.le h2.le).sl.len Tryz.underlying23]
  simp only [pop_some, cb_neq]
  have bad : ∀ {m3 : CM}, m2.le m3 → K (.int .i64 3) m3 := fun hl => hK _ 3 (fun h => absurd h (by decide)) fun _ => ⟨h2.le.trans hl, _, (h2.le' hl).o4⟩
  cases hb1 : ((e.gn bs.length : Int) != (d.nl : Int)) with
  | true =>
    simp only [gb_bool, Bool.true_beq, dgs_false, gop_false, cpick_bool, if_true, pop_some, cnd_true]
    rw [leave1, RK_ret]; exact bad (.refl m2)
  | false =>
  have hgn : e.gn bs.length = d.nl := by have : (e.gn bs.length : Int) = (d.nl : Int) := by simpa using hb1
                                         omega
  simp only [cnilc, fz101_0, fz97_0, fz97_1, fz97_2, fz25_0, fz25_1, gb_bool, beq_self_eq_true, dgs_true, gop_true, cpick_bool, Bool.false_eq_true, if_false, pop_some]
  rw [hk h2.ob rfl]
  simp only [pop_some]
  rw [((he.le h2.le).sk _ hkn).len Tryz.underlying28]
  simp only [pop_some, cb_gtr]
  cases hb2' : decide ((bs.length : Int) < (e.kn bs.length : Int)) with
  | true =>
    simp only [gb_bool, Bool.true_beq, dgs_false, gop_false, cpick_bool, if_true, pop_some, cnd_true]
    rw [leave1, RK_ret]; exact bad (.refl m2)
  | false =>
  have hkb : e.kn bs.length ≤ bs.length := by have : ¬ (bs.length : Int) < (e.kn bs.length : Int) := by simpa using hb2'
                                              omega
  simp only [cnilc, fz101_0, fz97_0, fz97_1, fz97_2, fz25_0, fz25_1, gb_bool, beq_self_eq_true, dgs_true, gop_true, cpick_bool, Bool.false_eq_true, if_false, pop_some]
  rw [ha h2.ob rfl]
  simp only [pop_some]
  rw [((he.le h2.le).sa _ hkn).len Tryz.underlying63, h2.o2.cel.z ag22 (j := 0) rfl]
  simp only [pop_some]
  rw [(hd.le h2.le).st.len Tryz.underlying22]
  simp only [pop_some, cb_neq]
  cases hb3 : ((e.an bs.length : Int) != (d.nt : Int)) with
  | true => rw [cnd_true, leave1, RK_ret]; exact bad (.refl m2)
  | false =>
  have han : e.an bs.length = d.nt := by have : (e.an bs.length : Int) = (d.nt : Int) := by simpa using hb3
                                         omega
  rw [cnd_false]
  rw [ha h2.ob rfl, pop_some]
  refine ranges50 ((he.le h2.le).sa _ hkn) (he.an0 _ hkn) (he.ar0 _ hkn) fun m3 q hle3 hq => ?_
  have h3 := h2.le' hle3
  rw [hg h3.ob rfl]
  simp only [pop_some]
  refine out41 _ _ _ _ _ _ _ _ ((he.le h3.le).sg _ hkn) (he.gn0 _ hkn) fun m4 b4 hle4 h4b => ?_
  have h4 := h3.le' hle4
  cases b4 with
  | true =>
    simp only [gb_bool, Bool.true_beq, dgs_false, gop_false, cpick_bool, if_true, pop_some, cnd_true]
    exact j89_ok s h4 hd hdo he hkn hkb hb6 hgn han hx rfl rfl rfl rfl (fun h => absurd h (by decide)) hK
  | false =>
    simp only [cnilc, fz101_0, fz97_0, fz97_1, fz97_2, gb_bool, beq_self_eq_true, gop_true, cpick_bool, Bool.false_eq_true, if_false, pop_some]
    rw [hk h4.ob rfl]
    simp only [pop_some]
    refine out41 _ _ _ _ _ _ _ _ ((he.le h4.le).sk _ hkn) (he.kn0 _ hkn) fun m5 b5 hle5 h5b => ?_
    have h5 := h4.le' hle5
    cases b5 with
    | true =>
      rw [cnd_true]
      exact j89_ok s h5 hd hdo he hkn hkb hb6 hgn han hx rfl rfl rfl rfl (fun h => absurd h (by decide)) hK
    | false =>
      rw [cnd_false]
      exact j89_ok s h5 hd hdo he hkn hkb hb6 hgn han hx rfl rfl rfl rfl (fun h => ⟨h4b rfl, h5b rfl, hq h⟩) hK
end
/-- What melt gives. -/
structure Melt (d : ShopD) (e : BatsD) (m0 : CM) (va : Value) (bs : List Nat) (xs : Nat → BatD) (m : CM) : Prop where
  hv : ∃ bn, HV m va bn (ptrs bs) ∧ ∀ y, bn = some y → m0.next ≤ y
  own : ∀ j c, bs[j]? = some c → Own m c (xs j).cells 0
  ok : ∀ j, j < bs.length → BatOk d e j (xs j)
  ss : ∀ c ∈ bs, m0.next ≤ c
  n : bs.length = e.n
  n1 : 1 ≤ e.n ∧ e.n ≤ 6
  d : d.Ok
theorem Melt.sl {d : ShopD} {e : BatsD} {m0 : CM} {va : Value} {bs : List Nat} {xs : Nat → BatD} {m : CM} (h : Melt d e m0 va bs xs m) : Sl 1 m va bs.length (fun i => [(ptrs bs).getD i undef]) := by
  obtain ⟨bn, hv, _⟩ := h.hv
  have := hv.sl
  rwa [ptrs, List.length_map] at this
theorem Melt.keep {d : ShopD} {e : BatsD} {m0 : CM} {va : Value} {bs : List Nat} {xs : Nat → BatD} {m m' : CM} {b : Nat} (h : Melt d e m0 va bs xs m) (k : KeepX m b m') (hb : b < m0.next) : Melt d e m0 va bs xs m' := by
  obtain ⟨bn, hv, hn⟩ := h.hv
  refine ⟨⟨bn, hv.of_get k.1 fun y hy => k.2 y (hv.lt hy) (by have := hn y hy; omega), hn⟩, fun j c hc => Own.keepX (h.own j c hc) k (by have := h.ss c (List.mem_of_getElem? hc); omega), h.ok, h.ss, h.n, h.n1, h.d⟩
theorem melt51 {d : ShopD} {e : BatsD} {m : CM} (hd : d.In m) (he : e.In m) {K : Value → CM → Prop} {Kp : List PanicEntry → CM → Prop}
    (hK : ∀ m' va (c : Int), m.le m' → (c ≠ 0 → va = .slice none 0 0) → (c = 0 → ∃ bs xs, Melt d e m va bs xs m') → K (.tuple ⟨[va, .int .i64 c]⟩) m') :
    callw Tryz.prog 51 [.agg ⟨d.cells⟩, e.v] m K Kp := by
  apply c51
  unfold s51
  refine box_of fun t2 m1 hle1 hb1 ho1 => ?_
  replace ho1 : Own m1 t2 d.cells 0 := ho1
  refine alw_of ze91 fun t4 m2 hle2 hb2 ho2 => ?_
  have hle := hle1.trans hle2
  have h24 : t2 ≠ t4 := by have := ho1.1; omega
  replace ho1 := ho1.le hle2
  rw [lda ho1 ag25 sz25, pop_some]
  refine check7 (hd.le hle) fun p a c m3 hle3 h3 => ?_
  have hle' := hle.trans hle3
  replace ho1 := ho1.le hle3
  replace ho2 := ho2.le hle3
  have fin : ∀ {m4 : CM} {v : Value} {c : Int}, m.le m4 → Own m4 t4 [v] 0 → c ≠ 0 → sop (cstore Tryz.prog 91 (.pointer (some ⟨t4, 0, none⟩)) (.slice none 0 0) m4) (fun _ m => leaveV Tryz.prog [.c 91 (.pointer (some ⟨t4, 0, none⟩)), .v (.int .i64 c)] [] .ret m (RK K Kp)) := by
    intro m4 v c hl ho hc
    refine ho.store (by simp [toL, sz91]) (by simp [toL]) rfl fun m5 hn5 hx5 ho5 => ?_
    simp only [toL] at ho5
    have hle5 : m.le m5 := le_of_put hl (Nat.le_trans hle1.1 hb2) hn5 hx5
    show pop (cload Tryz.prog 91 (.pointer (some ⟨t4, 0, none⟩)) m5) m5 _
    rw [ho5.cel.z ag91 (j := 0) rfl, pop_some]
    exact hK m5 _ c hle5 (fun _ => rfl) (fun h => absurd h hc)
  simp only [cext, List.getElem?_cons_zero, List.getElem?_cons_succ, pop_some, cb_neq]
  cases hc : (c != 0) with
  | true => rw [cnd_true]; exact fin hle' ho2 (by simpa using hc)
  | false =>
  have hdo : d.Ok := h3 (by simpa using hc)
  rw [cnd_false, he.s.len Tryz.underlying26, pop_some]
  refine out_1 fun b4 m4 hle4 h4 => ?_
  have hl4 := hle'.trans hle4
  cases b4 with
  | true => rw [cnd_true]; exact fin hl4 (ho2.le hle4) (by decide)
  | false =>
  have h4' := h4 rfl
  have he6 : 1 ≤ e.n ∧ e.n ≤ 6 := by omega
  rw [cnd_false]
  have hb : ∀ j, j < e.n → ([e.g j, e.k j, e.a j] : List Value).all one = true := fun j hj => by
    simp [Sl.one (he.sg j hj), Sl.one (he.sk j hj), Sl.one (he.sa j hj)]
  refine first_ok (fun h => c91 h) Tryz.underlying26 sz97 ag97 (by decide) ze97 rfl he.n0 (row := fun i => [e.g i, e.k i, e.a i]) (Inv := fun i m' => InvB d e m t2 t4 i m') (J := fun _ m' => ErrB m t4 m') hb
    (fun i m' h => by obtain ⟨va, bn, bs, xs, _, h⟩ := h; exact he.s.le h.le) (fun i m' m2 h k => by obtain ⟨va, bn, bs, xs, e, h⟩ := h; exact ⟨va, bn, bs, xs, e, h.le' k⟩)
    (fun i m' K Kp hi hm hk => ?_) ⟨.slice none 0 0, none, [], fun _ => newB undef undef undef, rfl, ⟨hl4, ho1.le hle4, ho2.le hle4, .nil, fun j c h => by simp at h, fun j h => by simp at h, hb1, Nat.le_trans hle1.1 hb2, fun y h => by simp at h, h24, fun y h => by simp at h, .nil⟩⟩ fun m5 x5 e5 g0 g1 => ?_
  · obtain ⟨va, bn, bs, xs, rfl, hm⟩ := hm
    show callw Tryz.prog 89 ([] ++ [.int .i64 bs.length, _] ++ [.pointer (some ⟨t2, 0, none⟩), .pointer (some ⟨t4, 0, none⟩)]) m' _ _
    exact f89_ok hm hd hdo he hi (by omega) hk
  · simp only [List.getElem?_cons_zero, List.getElem?_cons_succ, pop_some, cb_neq]
    cases he5 : (e5 != 0) with
    | true =>
      have hne : e5 ≠ 0 := by simpa using he5
      obtain ⟨q1, v, q2⟩ := g1 hne
      rw [cnd_true]; exact fin q1 q2 hne
    | false =>
      obtain ⟨va, bn, bs, xs, hn, h5⟩ := g0 (by simpa using he5)
      rw [cnd_false, h5.o4.cel.z ag91 (j := 0) rfl, pop_some]
      have h1v : one va = true := by have := h5.hv.sl; exact Sl.one this
      refine h5.o4.store (by rw [toL_one h1v]; simp [sz91]) (by rw [toL_one h1v]; simp) (by rw [toL_one h1v]; simp [h1v]) fun m6 hn6 hx6 ho6 => ?_
      have h6 : Own m6 t4 [va] 0 := by rw [toL_one h1v] at ho6; exact ho6
      show pop (cload Tryz.prog 91 (.pointer (some ⟨t4, 0, none⟩)) m6) m6 _
      rw [h6.cel.z ag91 (j := 0) rfl, pop_some]
      have hle6 : m.le m6 := le_of_put h5.le h5.s4 hn6 hx6
      refine hK m6 va 0 hle6 (fun h => absurd rfl h) fun _ => ⟨bs, xs, ⟨bn, ?_, fun y hy => (h5.sn y hy).1⟩, fun j c hc => ?_, h5.ok, fun c hc => (h5.ss c hc).1, hn, he6, hdo⟩
      · exact h5.hv.of_get (by rw [hn6]; exact Nat.le_refl _) fun y hy => hx6 y (h5.sn y hy).2.2.1
      · have hm := List.mem_of_getElem? hc
        exact ⟨by rw [hn6]; exact (h5.own j c hc).1, by rw [hx6 c (h5.ss c hm).2.2]; exact (h5.own j c hc).2⟩
end Go.Proofs.YtclgfagkaklnnaaGreat.C
end

section
namespace Go.Proofs.YtclgfagkaklnnaaGreat
open Go
/-! ### Slices of rows that are the call's own: append, how they are typed -/
/-- A slice of n rows of e cells: nil, or all of a block of its own. -/
inductive HVe (e : Nat) (m : CM) : Value → Option Nat → List Value → Nat → Prop where
  | nil : HVe e m (.slice none 0 0) none [] 0
  | blk {b n : Nat} {c : List Value} (h : Own m b c e) (hl : c.length = n * e) : HVe e m (.slice (some ⟨b, 0, none⟩) n 0) (some b) c n
section
variable {e : Nat} {m m' : CM} {v : Value} {b : Option Nat} {c : List Value} {n : Nat}
theorem HVe.of_get (h : HVe e m v b c n) (hn : m.next ≤ m'.next) (hg : ∀ y, b = some y → m'.get y = m.get y) : HVe e m' v b c n := by
  cases h with
  | nil => exact .nil
  | blk h hl => exact .blk ⟨Nat.lt_of_lt_of_le h.1 hn, by rw [hg _ rfl]; exact h.2⟩ hl
theorem HVe.lt (h : HVe e m v b c n) {y : Nat} (q : b = some y) : y < m.next := by
  cases h with
  | nil => cases q
  | blk h => cases q; exact h.1
theorem HVe.le (h : HVe e m v b c n) (k : m.le m') : HVe e m' v b c n := h.of_get k.1 fun y hy => k.2 y (h.lt hy)
theorem HVe.len (h : HVe e m v b c n) : c.length = n * e := by
  cases h with
  | nil => simp
  | blk _ hl => exact hl
theorem HVe.toL1 (h : HVe e m v b c n) : toL v = [v] ∧ (toL v).all one = true := by cases h <;> exact ⟨rfl, rfl⟩
theorem HVe.hv (h : HVe 1 m v b c n) : HV m v b c := by
  cases h with
  | nil => exact .nil
  | blk h hl =>
    have : c.length = n := by omega
    subst this
    exact .blk h
def rowE (e : Nat) (c : List Value) (i : Nat) : List Value := (c.drop (i * e)).take e
theorem rowE_len {e : Nat} {c : List Value} {n i : Nat} (h : c.length = n * e) (hi : i < n) : (rowE e c i).length = e := by
  have : (i + 1) * e ≤ n * e := Nat.mul_le_mul_right e hi
  rw [Nat.add_mul, Nat.one_mul] at this
  simp [rowE]; omega
theorem HVe.sl (h : HVe e m v b c n) : Sl e m v n (rowE e c) := by
  cases h with
  | nil => exact .inl ⟨rfl, rfl⟩
  | blk ho hl =>
    refine .inr (.inl ⟨_, 0, 0, c, true, rfl, ho.1, ho.2, fun i hi => ⟨rowE_len hl hi, fun j hj => ?_⟩⟩)
    simp only [rowE, List.getElem?_take, hj, if_true, List.getElem?_drop, Nat.zero_add]
theorem rowE_app_left {e : Nat} {c d : List Value} {n i : Nat} (h : c.length = n * e) (hi : i < n) : rowE e (c ++ d) i = rowE e c i := by
  have : (i + 1) * e ≤ n * e := Nat.mul_le_mul_right e hi
  rw [Nat.add_mul, Nat.one_mul] at this
  simp only [rowE]
  rw [List.drop_append, List.take_append_of_le_length (by simp; omega)]
theorem rowE_app_right {e : Nat} {c d : List Value} {n : Nat} (h : c.length = n * e) (hd : d.length = e) : rowE e (c ++ d) n = d := by
  simp only [rowE]
  rw [← h, List.drop_left, ← hd, List.take_length]
/-- Kept by all that keeps a memory but for one block. -/
theorem HVe.slF {h : Nat} (hv : HVe e m v b c n) (hb : ∀ y, b = some y → y ≠ h) : SlF (keepBut m h) e v n (rowE e c) := fun M hM => by
  cases hv with
  | nil => exact HVe.sl .nil
  | blk ho hl => exact HVe.sl (.blk ⟨(hM _ _ (keepBut_get ho.1 (hb _ rfl))).1, by rw [(hM _ _ (keepBut_get ho.1 (hb _ rfl))).2]; exact ho.2⟩ hl)
theorem HVe.wt {h : Nat} (hv : HVe e m v b c n) (hb : ∀ y, b = some y → y ≠ h) {tys : List CT} (ht : tys.length = e) (he : 0 < e) {ks : Nat → Nat} (hr : ∀ i, i < n → WTL (keepBut m h) tys (ks i) (rowE e c i)) : WT (keepBut m h) (.sl tys) (1 + sumN ks n) v :=
  .sl (row := rowE e c) (by rw [ht]; exact hv.slF hb) (by omega) hr
end
section
variable {P : Program} {T E : TypeId} {m M : CM} {K : Value → CM → Prop}
/-- Append, whatever lies behind. -/
theorem appG {e : Nat} {z : List Value} {by' : Nat} (un : P.underlying T = some (.slice E)) (sz : szOf P E = some (e + 1)) (ze : zeroL P E = some z) (hz : z.length = e + 1) (ha : appArg P T = true) (hby : bytesOf' P E = by') (h0 : 0 < by') (h64 : by' ≤ 64)
    {v x : Value} {bn : Option Nat} {cs vs : List Value} {n k : Nat} (hv : HVe (e + 1) M v bn cs n) (hl : lenV x = some k) (hr : readS M x (e + 1) k = some vs) (hvl : vs.length = k * (e + 1)) (h1 : vs.all one = true) (hk : 0 < k) (hB : n + k ≤ lim)
    (hK : ∀ m', m'.next = M.next + 1 → (∀ y, y < M.next → bn ≠ some y → m'.get y = M.get y) → Own m' M.next (cs ++ vs) (e + 1) → K (.slice (some ⟨M.next, 0, none⟩) (n + k) 0) m') : vop (cappend P [T, T] v x M) K := by
  have hl' : (2 * (n + k) + 1024) * by' ≤ 2 ^ 48 := by
    have : (2 * (n + k) + 1024) * by' ≤ (2 * lim + 1024) * 64 := Nat.mul_le_mul (by omega) h64
    exact Nat.le_trans this (by decide)
  cases hv with
  | nil =>
    have hc : cappend P [T, T] (.slice none 0 0) x M = some (.slice (some ⟨M.next, 0, none⟩) k 0, M.alloc (.cells vs (e + 1) true)) := by
      simp only [cappend, un, ha, if_true, sz, ze, hl, hr, hvl, hz, h1, and_self, hby]
      rw [if_neg (by omega), if_pos ⟨by rw [Nat.zero_add] at hl'; exact hl', h0⟩]
    refine ⟨_, _, hc, ?_⟩
    have := hK (M.alloc (.cells vs (e + 1) true)) (by simp) (fun y hy _ => by rw [CM.get_alloc, if_neg (by omega)]) ⟨by simp, by rw [CM.get_alloc, if_pos rfl]; rfl⟩
    rwa [Nat.zero_add] at this
  | blk ho hln =>
    rename_i b
    have hb := ho.1
    have hc : cappend P [T, T] (.slice (some ⟨b, 0, none⟩) n 0) x M = some (.slice (some ⟨M.next, 0, none⟩) (n + k) 0, (M.set b none).alloc (.cells (cs ++ vs) (e + 1) true)) := by
      simp only [cappend, un, ha, if_true, sz, ze, hl, hr, hvl, hz, h1, and_self, hby, ho.2, hln]
      rw [if_pos ⟨trivial, hl', h0⟩]
    refine ⟨_, _, hc, hK _ (by simp) (fun y hy hn => ?_) ⟨by simp, by rw [CM.get_alloc, if_pos (by simp)]⟩⟩
    rw [CM.get_alloc, if_neg (by simp; omega), CM.get_set, if_neg (fun e => hn (by rw [e]))]
/-- One row put behind, where the append looks at a view of the memory. -/
theorem appJ {e : Nat} (h24 : e + 1 ≤ 16777216) {z : List Value} {by' : Nat} (un : P.underlying T = some (.slice E)) (sz : szOf P E = some (e + 1)) (ze : zeroL P E = some z) (hz : z.length = e + 1) (ha : appArg P T = true) (hby : bytesOf' P E = by') (h0 : 0 < by') (h64 : by' ≤ 64)
    {v x : Value} {bn : Option Nat} {cs : List Value} {n : Nat} (hv : HVe (e + 1) m v bn cs n) (hx : (toL x).length = e + 1) (h1 : (toL x).all one = true) (hB : n + 1 ≤ lim)
    {Mv : Value → CM → CM} (hMn : ∀ t m1, (Mv t m1).next = m1.next) (hMg : ∀ t m1 y, (Mv t m1).get y = if m.next ≤ y ∧ y < m.next + (m1.next - m.next) then m1.get y else m.get y)
    (hK : ∀ m', m'.next = m.next + 2 → (∀ y, y < m.next → bn ≠ some y → m'.get y = m.get y) → Own m' (m.next + 1) (cs ++ toL x) (e + 1) → K (.slice (some ⟨m.next + 1, 0, none⟩) (n + 1) 0) m') :
    vop (cbuildS P T 1 [(0, x)] m) (fun t m1 => m.le m1 ∧ vop (cappend P [T, T] v t (Mv t m1)) K) := by
  have hb : cbuildS P T 1 [(0, x)] m = some (.slice (some ⟨m.next, 0, none⟩) 1 0, m.alloc (.cells (toL x) (e + 1) true)) := by
    have hd : z.drop (e + 1) = [] := List.drop_eq_nil_of_le (by omega)
    simp [cbuildS, un, sz, ze, zeros, cfill, hx, splice, hz, hd, h24]
  refine ⟨_, _, hb, ⟨by simp, fun y hy => by rw [CM.get_alloc, if_neg (by omega)]⟩, ?_⟩
  generalize hMM : Mv _ _ = M
  have hMn' : M.next = m.next + 1 := by rw [← hMM, hMn]; simp
  have hMg' : ∀ y, y < m.next → M.get y = m.get y := fun y hy => by rw [← hMM, hMg, if_neg (by omega)]
  have hMo : Own M m.next (toL x) (e + 1) := ⟨by omega, by rw [← hMM, hMg, if_pos (by simp), CM.get_alloc, if_pos rfl]⟩
  refine appG un sz ze hz ha hby h0 h64 (hv.of_get (by omega) fun y hy => hMg' y (hv.lt hy)) (k := 1) (vs := toL x) rfl ?_ (by omega) h1 (by omega) hB fun m' hn hg ho => ?_
  · simp [readS, hMo.2, hx, List.take_of_length_le]
  · rw [hMn'] at ho ⊢
    exact hK m' (by omega) (fun y hy hb => by rw [hg y (by omega) hb, hMg' y hy]) ho
end
end Go.Proofs.YtclgfagkaklnnaaGreat
end

section
open Go Go.Proofs Go.Proofs.YtclgfagkaklnnaaGreat
set_option maxRecDepth 100000
namespace Go.Proofs.YtclgfagkaklnnaaGreat.C
theorem Melt.at {d : ShopD} {e : BatsD} {m0 m : CM} {va : Value} {bs : List Nat} {xs : Nat → BatD} (h : Melt d e m0 va bs xs m) {i : Nat} (hi : i < bs.length) :
    ∃ p c, cia Tryz.prog 91 va (.int .i64 i) = some p ∧ (∀ m', m.le m' → cload Tryz.prog 94 p m' = some (.pointer (some ⟨c, 0, none⟩))) ∧ (∀ m', m.le m' → Own m' c (xs i).cells 0) := by
  have hn := h.n; have hn6 := h.n1
  obtain ⟨bx, ox, hia, hcel, hlen⟩ := h.sl.at Tryz.underlying91 sz94 (i := i) (by omega) (by omega)
  simp only [Int.toNat_natCast] at hcel hlen
  refine ⟨_, bs[i], hia, fun m' hle => ?_, fun m' hle => (h.own i _ (List.getElem?_eq_getElem hi)).le hle⟩
  rw [(hcel.le hle).elv ag94 sz94 hlen (by decide)]
  simp [ptrs, List.getD_eq_getElem?_getD, List.getElem?_eq_getElem hi, elv]
/-- A new slice of at most six rows of numbers. -/
def ResV (e : Nat) (m m' : CM) (v : Value) : Prop := ∃ bn cs n, HVe e m' v bn cs n ∧ (∀ y, bn = some y → m.next ≤ y) ∧ n ≤ 6 ∧ (∀ u ∈ cs, ∃ k, u = .int .i64 k)
theorem ResV.nil {e : Nat} {m m' : CM} : ResV e m m' (.slice none 0 0) := ⟨none, [], 0, .nil, fun _ h => by simp at h, by omega, fun _ h => by simp at h⟩
theorem memJ1 {m m2 : CM} {E : List Ent} {nx : Nat} (h : ∀ x, (memJ m E (fun _ => true) nx).get x = if m.next ≤ x ∧ x < m.next + (m2.next - m.next) then m2.get x else m.get x) : ∀ x, (memJ m E (fun _ => true) nx).get x = if m.next ≤ x ∧ x < m.next + (m2.next - m.next) then m2.get x else m.get x := h
theorem Left22 {d : ShopD} {e : BatsD} {m : CM} (hd : d.In m) (he : e.In m) {K : Value → CM → Prop} {Kp : List PanicEntry → CM → Prop}
    (hK : ∀ m' v (c : Int), m.le m' → ResV 1 m m' v → K (.tuple ⟨[v, .int .i64 c]⟩) m') : callw Tryz.prog 22 [.agg ⟨d.cells⟩, e.v] m K Kp := by
  apply c22
  unfold s22
  refine box_of fun t2 m1 hle1 hb1 ho1 => ?_
  replace ho1 : Own m1 t2 d.cells 0 := ho1
  rw [lda ho1 ag25 sz25, pop_some]
  refine melt51 (hd.le hle1) (he.le hle1) fun m2 va c hle2 hnil hM => ?_
  have hle := hle1.trans hle2
  simp only [cext, List.getElem?_cons_zero, List.getElem?_cons_succ, pop_some, cb_neq]
  cases hc : (c != 0) with
  | true => rw [cnd_true, leave2, RK_ret]; exact hK _ _ _ hle .nil
  | false =>
  obtain ⟨bs, xs, hM⟩ := hM (by simpa using hc)
  have hn := hM.n; have hn6 := hM.n1
  rw [cnd_false, hM.sl.len Tryz.underlying91, pop_some]
  refine loopA_of (fun l0 ds m' => ds = [] ∧ m2.le m' ∧ ∃ (i : Nat) (v : Value) (bn : Option Nat) (cs : List Value), i ≤ bs.length ∧ HVe 1 m' v bn cs i ∧ (∀ y, bn = some y → m2.next ≤ y) ∧ (∀ u ∈ cs, ∃ k, u = .int .i64 k) ∧ l0 = [v, va, .int .i64 bs.length, .int .i64 i])
    (fun l _ => match l with | [_, _, _, .int _ i] => bs.length - i.toNat | _ => 0) ⟨rfl, .refl m2, 0, _, none, [], by omega, .nil, fun _ h => by simp at h, fun _ h => by simp at h, rfl⟩ ?_
  rintro X ρ ds m' ⟨rfl, hle', i, v, bn, cs, hi, hv, hbn, hints, hll⟩ hX
  simp only [List.map_cons, List.map_nil, List.cons.injEq, and_true] at hll
  obtain ⟨p4, p18, p19, p20⟩ := hll
  simp only [p4, p18, p19, p20, cb_lss, pop_some]
  by_cases hci : i < bs.length
  · have hc' : decide ((i : Int) < (bs.length : Int)) = true := by simpa using hci
    obtain ⟨p, c, hia, hld, hown⟩ := hM.at hci
    rw [hc', cnd_true, hia, pop_some, hld _ hle', pop_some]
    simp only [cnilc, fz101_1, fz101_2, pop_some]
    rw [ldi (hown _ hle') (n := (xs i).w) rfl]
    simp only [pop_some]
    rw [ldi (hown _ hle') (n := (xs i).t) rfl]
    simp only [pop_some, cb_sub]
    refine appJ (e := 0) (by omega) Tryz.underlying28 sz3 ze3 rfl ap28 by3 (by decide) (by decide) hv rfl rfl (by unfold lim; omega) (fun _ _ => rfl) (fun t m1 y => get_over ..) fun m3 hn3 hg3 ho3 => ?_
    have hle3 : m2.le m3 := ⟨by have := hle'.1; omega, fun y hy => by rw [hg3 y (Nat.lt_of_lt_of_le hy hle'.1) (fun e => by have := hbn y e; omega)]; exact hle'.2 y hy⟩
    rw [cb_add, pop_some, wrap_id (by omega) (by omega)]
    refine hX _ _ _ ⟨rfl, hle3, i + 1, _, _, _, by omega, .blk ho3 (by have := hv.len; simp [toL]; omega), fun y hy => by cases hy; have := hle'.1; omega, fun u hu => ?_, by simp⟩ ?_
    · simp only [List.mem_append, toL, List.mem_singleton] at hu
      rcases hu with hu | rfl
      · exact hints u hu
      · exact ⟨_, rfl⟩
    · simp only [List.map_cons, List.map_nil, p20]; omega
  · have hc' : decide ((i : Int) < (bs.length : Int)) = false := by simpa using hci
    rw [hc', cnd_false, leave2, RK_ret]
    exact hK _ _ _ (hle.trans hle') ⟨bn, cs, i, hv, fun y hy => by have := hbn y hy; have := hle.1; omega, by omega, hints⟩
end Go.Proofs.YtclgfagkaklnnaaGreat.C
end

section
open Go Go.Proofs Go.Proofs.YtclgfagkaklnnaaGreat
set_option maxRecDepth 100000
namespace Go.Proofs.YtclgfagkaklnnaaGreat.C
theorem le_view {m m8 M : CM} (h : m.le m8) (hn : M.next = m8.next) (hg : ∀ y, M.get y = if m.next ≤ y ∧ y < m.next + (m8.next - m.next) then m8.get y else m.get y) : m8.le M :=
  ⟨by omega, fun y hy => by
    rw [hg y]
    have := h.1
    split
    · rfl
    · exact (h.2 y (by omega)).symm⟩
theorem nil63 (b o : Nat) (n k : Nat) : cbin Tryz.prog .eql 63 (Operand.tmp 3) (Operand.const (.slice none 0 0)) (.slice (some ⟨b, o, none⟩) n k) (.slice none 0 0) = some (.bool false) := by simp [cbin, plainV, cnilq, Tryz.underlying63]
theorem clone52 {m : CM} {c o n e k : Nat} {cells : List Value} (hc : ∃ own, c < m.next ∧ m.get c = some (.cells cells e own)) (hl : ((cells.drop o).take (n * 2)).length = n * 2) (h1 : ((cells.drop o).take (n * 2)).all one = true) (hn : 0 < n) (hn5 : n ≤ 5) {K : Value → CM → Prop} {Kp : List PanicEntry → CM → Prop}
    (hK : ∀ m' b, m.le m' → m.next ≤ b → Own m' b ((cells.drop o).take (n * 2)) 2 → K (.slice (some ⟨b, 0, none⟩) n 0) m') : callw Tryz.prog 52 [.slice (some ⟨c, o, none⟩) n k] m K Kp := by
  obtain ⟨own, hlt, hget⟩ := hc
  apply c52
  unfold s52
  rw [nil63, pop_some, cnd_false]
  have hb : cbuildS Tryz.prog 63 0 [] m = some (.slice (some ⟨m.next, 0, none⟩) 0 0, m.alloc (.cells [] 2 true)) := by
    simp [cbuildS, Tryz.underlying63, sz59, ze59, zeros, cfill]
  rw [hb, vop_some]
  have ho : Own (m.alloc (.cells [] 2 true)) m.next [] 2 := ⟨by simp, by rw [CM.get_alloc, if_pos rfl]⟩
  refine appG (e := 1) Tryz.underlying63 sz59 ze59 rfl ap63 by59 (by decide) (by decide) (.blk ho rfl) (k := n) rfl (vs := (cells.drop o).take (n * 2)) ?_ hl h1 hn (by unfold lim; omega) fun m' hn' hg ho' => ?_
  · have hg : (m.alloc (.cells [] 2 true)).get c = some (.cells cells e own) := by rw [CM.get_alloc, if_neg (by omega)]; exact hget
    simp only [readS, hg, hl]
    simp
  · rw [leave1, RK_ret, Nat.zero_add]
    simp only [CM.next_alloc] at hn' hg ho' ⊢
    refine hK _ _ ⟨by omega, fun y hy => ?_⟩ (by omega) (by simpa using ho')
    rw [hg y (by omega) (fun e => by cases e; omega), CM.get_alloc, if_neg (by omega)]
/-- A new table of spans. -/
structure TabV (m m' : CM) (v : Value) (bn : Option Nat) (cs : List Value) : Prop where
  hv : HVe 1 m' v bn cs cs.length
  nb : ∀ y, bn = some y → m.next ≤ y
  n6 : cs.length ≤ 6
  row : ∀ u ∈ cs, ∃ b c n, u = .slice (some ⟨b, 0, none⟩) n 0 ∧ n ≤ 5 ∧ Own m' b c 2 ∧ c.length = n * 2 ∧ m.next ≤ b ∧ bn ≠ some b ∧ ∀ x ∈ c, ∃ k, x = .int .i64 k
theorem TabV.nil {m m' : CM} : TabV m m' (.slice none 0 0) none [] := ⟨.nil, fun _ h => by simp at h, by simp, fun _ h => by simp at h⟩
theorem take_ints {l : List Int} {n : Nat} {x : Value} (h : x ∈ (ints l).take n) : ∃ k, x = .int .i64 k := by
  have := List.mem_of_mem_take h
  simp only [ints, List.mem_map] at this
  obtain ⟨a, _, rfl⟩ := this
  exact ⟨a, rfl⟩
theorem all_ints {l : List Value} (h : ∀ x ∈ l, ∃ k, x = .int .i64 k) : l.all one = true := by
  rw [List.all_eq_true]; intro x hx; obtain ⟨k, rfl⟩ := h x hx; rfl
theorem micro_take {x : BatD} (h : x.Sz) {n : Nat} (hn : n ≤ 5) : (x.cells.drop 5).take (n * 2) = (ints x.mi).take (n * 2) := by
  have : x.cells.drop 5 = ints x.mi ++ ints x.pa := by simp [BatD.cells]
  rw [this, List.take_append_of_le_length (by rw [ints_len, h.mi]; omega)]
theorem Content12 {d : ShopD} {e : BatsD} {m : CM} (hd : d.In m) (he : e.In m) {K : Value → CM → Prop} {Kp : List PanicEntry → CM → Prop}
    (hK : ∀ m' v bn cs (c : Int), m.le m' → TabV m m' v bn cs → K (.tuple ⟨[v, .int .i64 c]⟩) m') : callw Tryz.prog 12 [.agg ⟨d.cells⟩, e.v] m K Kp := by
  apply c12
  unfold s12
  refine box_of fun t2 m1 hle1 hb1 ho1 => ?_
  replace ho1 : Own m1 t2 d.cells 0 := ho1
  rw [lda ho1 ag25 sz25, pop_some]
  refine melt51 (hd.le hle1) (he.le hle1) fun m2 va c hle2 hnil hM => ?_
  have hle := hle1.trans hle2
  simp only [cext, List.getElem?_cons_zero, List.getElem?_cons_succ, pop_some, cb_neq]
  cases hc : (c != 0) with
  | true => rw [cnd_true, leave2, RK_ret]; exact hK _ _ _ _ _ hle .nil
  | false =>
  obtain ⟨bs, xs, hM⟩ := hM (by simpa using hc)
  have hn := hM.n; have hn6 := hM.n1; have hnt := hM.d.nt1
  replace ho1 := ho1.le hle2
  rw [cnd_false, hM.sl.len Tryz.underlying91, pop_some]
  refine loopA_of (fun l0 ds m' => ds = [] ∧ m2.le m' ∧ ∃ (i : Nat) (v : Value) (bn : Option Nat) (cs : List Value), i ≤ bs.length ∧ cs.length = i ∧ TabV m2 m' v bn cs ∧ l0 = [.pointer (some ⟨t2, 0, none⟩), v, va, .int .i64 bs.length, .int .i64 i])
    (fun l _ => match l with | [_, _, _, _, .int _ i] => bs.length - i.toNat | _ => 0) ⟨rfl, .refl m2, 0, _, none, [], by omega, rfl, .nil, rfl⟩ ?_
  rintro X ρ ds m' ⟨rfl, hle', i, v, bn, cs, hi, rfl, hv, hll⟩ hX
  simp only [List.map_cons, List.map_nil, List.cons.injEq, and_true] at hll
  obtain ⟨p2, p4, p18, p19, p20⟩ := hll
  simp only [p2, p4, p18, p19, p20, cb_lss, pop_some]
  by_cases hci : cs.length < bs.length
  · have hc' : decide ((cs.length : Int) < (bs.length : Int)) = true := by simpa using hci
    obtain ⟨p, c, hia, hld, hown⟩ := hM.at hci
    rw [hc', cnd_true, hia, pop_some, hld _ hle', pop_some]
    simp only [cnilc, fz101_3, fz25_0, pop_some]
    rw [(ho1.le hle').cel.z ag22 (j := 0) rfl]
    simp only [pop_some]
    rw [(hd.le (hle.trans hle')).st.len Tryz.underlying22]
    simp only [pop_some]
    rw [cslice99 _ _ _ hnt.2]
    simp only [pop_some]
    have hsz := (hM.ok _ hci).sz
    have hoc := hown _ hle'
    have hmt := micro_take hsz hnt.2
    have hmi : ∀ x ∈ (ints (xs cs.length).mi).take (d.nt * 2), ∃ k, x = .int .i64 k := fun x hx => take_ints hx
    have hml : ((ints (xs cs.length).mi).take (d.nt * 2)).length = d.nt * 2 := by rw [List.length_take, ints_len, hsz.mi]; omega
    refine clone52 ⟨true, hoc.1, hoc.2⟩ (by rw [hmt, hml]) (by rw [hmt]; exact all_ints hmi) (by omega) hnt.2 fun m8 b8 hle8 hb8 ho8 => ⟨hle8, ?_⟩
    rw [hmt] at ho8
    have hg0 := fun y => get_over m' m'.next (m8.next - m'.next) m8 y
    refine appJ (e := 0) (by omega) Tryz.underlying45 sz63 ze63 rfl ap45 by63 (by decide) (by decide) (v := v) (bn := bn) (cs := cs) (n := cs.length) ?_ rfl rfl (by have := hv.n6; unfold lim; omega) (fun _ _ => rfl) (fun t m1 y => get_over ..) fun m3 hn3 hg3 ho3 => ?_
    · exact hv.hv.le (hle8.trans (le_view hle8 rfl fun y => get_over ..))
    generalize hMV : memJ m' _ (fun i => Nat.testBit 510 i) m8.next = MV at hn3 hg3 ho3 ⊢
    have hV : m8.le MV := hMV ▸ le_view hle8 rfl fun y => get_over ..
    have hVV := hV.1
    have h22 := hle'.1
    have h88 := hle8.1
    replace ho8 := ho8.le hV
    have h8l := ho8.1
    have hle3 : m2.le m3 := ⟨by omega, fun y hy => by rw [hg3 y (by omega) (fun e => by have := hv.nb y e; omega), hV.2 y (by omega), hle8.2 y (by omega)]; exact hle'.2 y hy⟩
    rw [cb_add, pop_some, wrap_id (by omega) (by omega)]
    simp only [toL] at ho3
    have hbn8 : bn ≠ some b8 := fun e => by have := hv.hv.lt e; omega
    refine hX _ _ _ ⟨rfl, hle3, cs.length + 1, .slice (some ⟨MV.next + 1, 0, none⟩) (cs.length + 1) 0, some (MV.next + 1), cs ++ [.slice (some ⟨b8, 0, none⟩) d.nt 0], by omega, by simp, ⟨?_, fun y hy => by cases hy; omega, by simp; omega, ?_⟩, by simp⟩ ?_
    · have := HVe.blk ho3 (n := cs.length + 1) (by simp)
      simpa using this
    · intro u hu
      simp only [List.mem_append, List.mem_singleton] at hu
      rcases hu with hu | rfl
      · obtain ⟨b, c, n, h1, h2, h3, h4, h5, h6, h7⟩ := hv.row u hu
        have hbl := h3.1
        exact ⟨b, c, n, h1, h2, ⟨by omega, by rw [hg3 b (by omega) h6, hV.2 b (by omega), hle8.2 b hbl]; exact h3.2⟩, h4, h5, fun e => by cases e; omega, h7⟩
      · exact ⟨b8, _, d.nt, rfl, hnt.2, ⟨by omega, by rw [hg3 b8 (by omega) hbn8]; exact ho8.2⟩, hml, by omega, fun e => by cases e; omega, hmi⟩
    · simp only [List.map_cons, List.map_nil, p20]; omega
  · have hc' : decide ((cs.length : Int) < (bs.length : Int)) = false := by simpa using hci
    rw [hc', cnd_false, leave2, RK_ret]
    refine hK _ _ bn cs _ (hle.trans hle') ⟨hv.hv, fun y hy => by have := hv.nb y hy; have := hle.1; omega, hv.n6, fun u hu => ?_⟩
    obtain ⟨b, c, n, h1, h2, h3, h4, h5, h6⟩ := hv.row u hu
    exact ⟨b, c, n, h1, h2, h3, h4, by have := hle.1; omega, h6⟩
end Go.Proofs.YtclgfagkaklnnaaGreat.C
end
