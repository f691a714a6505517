/- Part 13 of 23 of the proof that the law TopAnewStore returns true and leaves its argument as it read before, for every input that the bounded statement admits (what it reads is of bulk at most 1048576). -/
import Derived.KernelRfl
import Derived.Test.YtjkfleibnojjaaaP02
import Derived.Test.YtjkfleibnojjaaaP05
import Derived.Test.YtjkfleibnojjaaaP06
import Derived.Test.YtjkfleibnojjaaaP12
section
open Go Go.Proofs Go.Proofs.Ytjkfleibnojjaaa
set_option maxRecDepth 100000
namespace Go.Proofs.Ytjkfleibnojjaaa.T
theorem rowE_zeros {e : Nat} {z : List Value} (hz : z.length = e) : ∀ {n j : Nat}, j < n → rowE e (zeros z n) j = z
  | 0, j, h => by omega
  | n + 1, 0, _ => by simp [rowE, zeros, ← hz]
  | n + 1, j + 1, h => by
    refine Eq.trans ?_ (rowE_zeros hz (n := n) (j := j) (by omega))
    simp only [rowE, zeros]
    rw [show (j + 1) * e = z.length + j * e from by rw [Nat.add_mul, hz]; omega, List.drop_length_add_append]
theorem one93 (js : List Int) : (toL (.agg ⟨iv js⟩)).all one = true := iv_one _
/-- The blocks of Show. -/
structure SS (m : CM) (d : SeD) (t6 T : Nat) (c : List Value) (v : Value) (bn : Option Nat) (ws : List Int) (M : CM) : Prop where
  le : m.le M
  o6 : Own M t6 d.cells 0
  oT : Own M T c 61
  hv : HV M v bn (iv ws)
  nb : ∀ y, bn = some y → m.next ≤ y ∧ y ≠ t6 ∧ y ≠ T
theorem SS.step {m M M' : CM} {d : SeD} {t6 T : Nat} {c : List Value} {v : Value} {bn : Option Nat} {ws : List Int} (h : SS m d t6 T c v bn ws M) (k : M.le M') : SS m d t6 T c v bn ws M' :=
  ⟨h.le.trans k, h.o6.le k, h.oT.le k, h.hv.of_get k.1 fun y hy => k.2 _ (h.hv.lt hy), h.nb⟩
/-- A day's warmth is looked for. -/
def lastOk (ws : List Int) : Prop := ∀ u ∈ ws, 0 ≤ u ∧ u ≤ 60
set_option maxHeartbeats 4000000 in
theorem Show17 {d : SeD} {w : WayD} {m : CM} (hd : d.In m) (hw : w.In m) {K : Value → CM → Prop} {Kp : List PanicEntry → CM → Prop}
    (hK : ∀ m' v bn (ws : List Int) (e : Int), m.le m' → HV m' v bn (iv ws) → (∀ y, bn = some y → m.next ≤ y) → ws.length ≤ w.n ∧ ws.length ≤ 8 → K (.tuple ⟨[v, .int .i64 e]⟩) m') : callw Try.prog 17 [.agg ⟨d.cells⟩, w.v] m K Kp := by
  apply c17
  unfold s17
  refine box_of fun t2 m1 hle1 hb2 o2 => ?_
  replace o2 : Own m1 t2 d.cells 0 := o2
  have a1 := hle1.1
  rw [lda o2 ag26 sz26, pop_some]
  refine open39 (hd.le hle1) (hw.s.le hle1) hw.n0 fun m2 e hle2 h2 => ?_
  have a2 := hle2.1
  have hle := hle1.trans hle2
  simp only [cext, List.getElem?_cons_zero, List.getElem?_cons_succ, pop_some]
  refine alw_of ze76 fun t6 m3 hle3 hb6 o6 => store_own o6 (by simp [toL, sz76]) (by simp [toL]) (SeD.one (hd.le (hle.trans hle3))) fun m4 hn4 hx4 o6 => ?_
  replace o6 : Own m4 t6 d.cells 0 := o6
  have a3 := hle3.1
  have c6 := o6.1
  replace hle := hle.trans (le_of_put hle3 hb6 hn4 hx4)
  rw [cb_neq, pop_some]
  cases hb : (e != 0) with
  | true =>
    rw [cnd_true]
    refine leave_rvs (.v (.v .nil)) ?_
    show RK K Kp (.ret (.tuple ⟨[_, _]⟩)) m4
    rw [RK_ret]
    exact hK _ _ none [] _ hle .nil (by simp) (by simp)
  | false =>
  obtain rfl : e = 0 := by simpa using hb
  obtain ⟨hok, hwn, hwx⟩ := h2 rfl
  have hwk : w.Ok d := ⟨hwn, hwx⟩
  have hn3 := hok.n3
  have hr0 := (hok.r 0 (by omega)).d
  clear h2
  rw [cnd_false, hw.s.len Try.underlying27, pop_some, cb_add, pop_some, wrap_id (by omega) (by omega), show ((w.n : Int) + 1) = ((w.n + 1 : Nat) : Int) from by omega]
  refine makeS_of Try.underlying97 sz93 ze93' (by simp [zer_len]) by93 (by decide) (n := w.n + 1) (by omega) fun m5 hle5 oT hzl => ?_
  have a5 := hle5.1
  generalize hTT : m4.next = T at *
  replace o6 := o6.le hle5
  replace hle := hle.trans hle5
  have cT := oT.1
  rw [hw.s.len Try.underlying27, pop_some, cb_sub, pop_some, wrap_id (by omega) (by omega)]
  have hmT : m.next ≤ T := by omega
  have h6T : t6 < T := by omega
  refine loopA_of (fun l0 ds m' => ds = [] ∧ KeepX m5 T m' ∧ ∃ (r : Nat) (c : List Value), r ≤ w.n ∧ Own m' T c 61 ∧ c.length = (w.n + 1) * 61 ∧ (∀ j, w.n - r ≤ j → j ≤ w.n → rowE 61 c j = iv (d.restP w (w.n - j))) ∧
      l0 = [w.v, .slice none 0 0, .int .i64 0, .pointer (some ⟨t6, 0, none⟩), .slice (some ⟨T, 0, none⟩) (w.n + 1) 0, .int .i64 ((w.n : Int) - 1 - r)])
    (fun l0 _ => match l0 with | [_, _, _, _, _, .int _ i] => (i + 1).toNat | _ => 0) ⟨rfl, .refl _ _, 0, _, by omega, oT, hzl, fun j h1 h2 => ?_, ?_⟩ ?_
  · rw [rowE_zeros (by simp [zer_len]) (by omega), show w.n - j = 0 from by omega]; rfl
  · simp
  clear oT
  rintro X ρ ds m' ⟨rfl, hk, r, c, hr, oT, hcl, hrow, hll⟩ hX
  simp only [List.map_cons, List.map_nil, List.cons.injEq, and_true] at hll
  obtain ⟨q1, q4, q5, q6, q7, q8⟩ := hll
  simp only [q1, q4, q5, q6, q7, q8, cb_geq, pop_some]
  have hle' : m.le m' := KeepX.since hle hmT hk
  have o6' := Own.keepX o6 hk (by omega)
  have hsl := oT.sl hcl (k := 0)
  by_cases hcr : r < w.n
  · obtain ⟨k, hkk⟩ : ∃ k : Nat, k = w.n - 1 - r := ⟨_, rfl⟩
    have hki : (w.n : Int) - 1 - r = (k : Int) := by omega
    have hkr : w.n - (k + 1) = r := by omega
    have hx := hwx k (by omega)
    have hbd := WayD.bd hwk hok (i := k) (by omega)
    obtain ⟨hrest, _⟩ := restP_ok hok hwk r hr
    rw [hki, decide_eq_true (by omega), cnd_true, cb_add, pop_some, wrap_id (by omega) (by omega)]
    obtain ⟨b0, o0, hia0, hcel0, hlen0⟩ := hsl.at Try.underlying97 sz93 (i := (k : Int) + 1) (by omega) (by omega)
    rw [show ((k : Int) + 1).toNat = k + 1 from by omega, hrow (k + 1) (by omega) (by omega), hkr] at hcel0 hlen0
    rw [hia0, pop_some, hcel0.elv ag93 sz93 hlen0 (by decide), pop_some]
    show pop (cfa Try.prog 76 0 (.pointer (some ⟨t6, 0, none⟩))) m' _
    simp only [fz76_0, fz26_0, fz26_2, pop_some]
    rw [show cload Try.prog 23 (.pointer (some ⟨t6, 0, none⟩)) m' = some (.agg ⟨d.candle⟩) from o6'.cel.za ag23 sz23 (j := 0) (by simp), pop_some, o6'.cel.z ag24 (j := 5) rfl, pop_some]
    obtain ⟨b, o, hia, hcel, hlen⟩ := (hw.s.le hle').at Try.underlying27 sz3 (i := k) (by omega) (by omega)
    obtain ⟨b2, o2, hia2, hcel2, hlen2⟩ := (hd.le hle').s.at Try.underlying24 sz66 (i := w.x k) hx.1 hx.2
    have hrr := hok.r (w.x k).toNat (by omega)
    have hrn := hrr.n
    obtain ⟨b3, o3, hia3, hcel3, hlen3⟩ := ((hd.le hle').c (w.x k).toNat (by omega)).s.at Try.underlying64 sz72 (i := k) (by omega) (by omega)
    simp only [Int.toNat_natCast] at hcel hlen hcel3 hlen3
    rw [hia, pop_some, hcel.s0 ag3 rfl, pop_some, hia2]
    simp only [pop_some, fa66_2]
    rw [hcel2.s ag64 (j := 2) rfl]
    simp only [pop_some]
    rw [hia3]
    simp only [pop_some]
    rw [hcel3.elv ag72 sz72 hlen3 (by decide)]
    simp only [pop_some]
    show callw Try.prog 42 [.agg ⟨iv (d.restP w r)⟩, .agg ⟨d.candle⟩, .agg ⟨[.int .i64 (w.lo d k), .int .i64 (w.hi d k)]⟩] m' _ _
    refine next42 (J := d.jump) rfl rfl rfl hrest.1 (fun u hu => by have := hrest.2 u hu; omega) hbd.1.1 hbd.2.1.2 hbd.2.2 fun m3 hle3 _ => ⟨hle3, ?_⟩
    generalize hMV : memJ m' _ (fun _ => true) m3.next = MV
    have hV : m3.le MV := hMV ▸ view1 hle3 (Nat.le_refl _) rfl
    clear hMV
    have hMV := hle3.trans hV
    rw [cia_own Try.underlying97 sz93 (by omega) (by omega), pop_some, Int.toNat_natCast]
    refine (oT.le hMV).row_store hcl (i := k) (by omega) sz93 (by simp [toL, nextP_len]) (one93 _) fun m4 c' hn4 hx4 oT' hcl' hrow' => ?_
    rw [cb_sub, pop_some, wrap_id (by omega) (by omega)]
    refine hX _ _ _ ⟨rfl, (hk.le hMV).trans (.wr1 hn4 hx4), r + 1, c', by omega, oT', hcl', fun j h1 h2 => ?_, ?_⟩ ?_
    · rw [hrow']
      by_cases e : j = k
      · subst e
        rw [if_pos rfl, show w.n - j = r + 1 from by omega]
        show iv _ = iv (nextP d.jump (w.lo d (w.n - (r + 1))) (w.hi d (w.n - (r + 1))) (d.restP w r))
        rw [show w.n - (r + 1) = j from by omega]
      · rw [if_neg e]; exact hrow j (by omega) h2
    · simp; omega
    · simp only [List.map_cons, List.map_nil, q8]; omega
  obtain rfl : r = w.n := by omega
  rw [decide_eq_false (by omega), cnd_false]
  obtain ⟨b0, o0, hia0, hcel0, hlen0⟩ := hsl.at Try.underlying97 sz93 (i := 0) (by omega) (by omega)
  rw [show (0 : Int).toNat = 0 from rfl, hrow 0 (by omega) (by omega), Nat.sub_zero] at hcel0 hlen0
  rw [hia0, pop_some, hcel0.elv ag93 sz93 hlen0 (by decide), pop_some]
  obtain ⟨hrest, hpos⟩ := restP_ok hok hwk w.n (by omega)
  show callw Try.prog 43 [.agg ⟨iv (d.restP w w.n)⟩] m' _ _
  refine most43 hrest.1 (fun u hu => by have := hrest.2 u hu; omega) fun m6 hle6 => ?_
  have hmx := hrest.2 _ (maxP_bd (js := d.restP w w.n) (by rw [hrest.1]; omega)).2
  rw [cb_add, pop_some, wrap_id (by omega) (by omega), hw.s.len Try.underlying27, pop_some, show maxP (d.restP w w.n) - 1 + 1 = maxP (d.restP w w.n) from by omega]
  have hS0 : SS m d t6 T c (.slice none 0 0) none [] m6 := ⟨hle'.trans hle6, o6'.le hle6, oT.le hle6, .nil, by simp⟩
  have hrow' : ∀ j, j ≤ w.n → rowE 61 c j = iv (d.restP w (w.n - j)) := fun j h => hrow j (by omega) h
  clear hX hia0 hcel0 hlen0 hsl oT o6' hrow hle6 hk q1 q4 q5 q6 q7 q8
  refine loopA_of (fun l0 ds m' => ds = [] ∧ ∃ (v : Value) (bn : Option Nat) (ws : List Int) (left : Int), SS m d t6 T c v bn ws m' ∧ lastOk ws ∧ ws.length ≤ w.n ∧ (ws.length < w.n → Next d.jump (d.restP w (w.n - ws.length)) ws.getLast? left) ∧
      l0 = [v, .int .i64 0, .pointer (some ⟨t6, 0, none⟩), .slice (some ⟨T, 0, none⟩) (w.n + 1) 0, .int .i64 left, .int .i64 w.n, .int .i64 ws.length])
    (fun l0 _ => match l0 with | [_, _, _, _, _, _, .int _ i] => w.n - i.toNat | _ => 0) ⟨rfl, _, none, [], _, hS0, by simp [lastOk], by simp, fun _ => ?_, rfl⟩ ?_
  · exact next_first (by rcases hpos with e | e; exact absurd e (by omega); exact e)
  clear hS0 hmx hrest hpos
  rintro X2 ρ ds M2 ⟨rfl, v, bn, ws, left, hS, hlast, hlen, hnext, hll⟩ hX
  simp only [List.map_cons, List.map_nil, List.cons.injEq, and_true] at hll
  obtain ⟨q4, q5, q6, q7, q9, q65, q66⟩ := hll
  simp only [q4, q5, q6, q7, q9, q65, q66, cb_lss, pop_some]
  by_cases hcl' : (ws.length : Int) < (w.n : Int)
  rotate_left
  · rw [decide_eq_false hcl', cnd_false]
    refine leave_rvs (.v (.v .nil)) ?_
    show RK K Kp (.ret (.tuple ⟨[_, _]⟩)) M2
    rw [RK_ret]
    exact hK _ _ _ _ _ hS.le hS.hv (fun y hy => (hS.nb y hy).1) ⟨hlen, by omega⟩
  have hcl2 : ws.length < w.n := by omega
  obtain ⟨hrest, hpos⟩ := restP_ok hok hwk (w.n - ws.length) (by omega)
  obtain ⟨b1, o1, hia1, hcel1, hlen1⟩ := (hS.oT.sl hcl (k := 0)).at Try.underlying97 sz93 (i := ws.length) (by omega) (by omega)
  rw [Int.toNat_natCast, hrow' ws.length (by omega)] at hcel1 hlen1
  rw [decide_eq_true hcl', cnd_true, hia1, pop_some, hcel1.elv ag93 sz93 hlen1 (by decide), pop_some]
  replace hnext := hnext hcl2
  have hpos : Pos (d.restP w (w.n - ws.length)) := by rcases hpos with e | e; exact absurd e (by omega); exact e
  obtain ⟨row, hrw⟩ : ∃ row, row = d.restP w (w.n - ws.length) := ⟨_, rfl⟩
  rw [← hrw] at hnext hrest hpos ⊢
  clear hia1 hcel1 hlen1
  show loopA _ _ [v, .int .i64 0, .pointer (some ⟨t6, 0, none⟩), .slice (some ⟨T, 0, none⟩) (w.n + 1) 0, .int .i64 left, .int .i64 ws.length, .int .i64 w.n, .int .i64 ws.length, .agg ⟨iv row⟩, .int .i64 0] _ _
  refine loopA_of (fun l0 ds m' => ds = [] ∧ SS m d t6 T c v bn ws m' ∧ ∃ k : Nat, k ≤ 61 ∧ (∃ (i : Nat) (n : Int), row[i]? = some n ∧ 0 < n ∧ hereP d.jump ws.getLast? i n = left ∧ k ≤ i) ∧
      l0 = [v, .int .i64 0, .pointer (some ⟨t6, 0, none⟩), .slice (some ⟨T, 0, none⟩) (w.n + 1) 0, .int .i64 left, .int .i64 ws.length, .int .i64 w.n, .int .i64 ws.length, .agg ⟨iv row⟩, .int .i64 k])
    (fun l0 _ => match l0 with | [_, _, _, _, _, _, _, _, _, .int _ i] => 61 - i.toNat | _ => 0) ⟨rfl, hS, 0, by omega, by obtain ⟨i, n, h1, h2, h3⟩ := hnext; exact ⟨i, n, h1, h2, h3, by omega⟩, rfl⟩ ?_
  clear hS hnext
  rintro X3 σ ds M3 ⟨rfl, hS, k, hk, ⟨i, n, hi, hn0, hher, hki⟩, hll⟩ hX3
  simp only [List.map_cons, List.map_nil, List.cons.injEq, and_true] at hll
  obtain ⟨r4, r5, r6, r7, r9, r10, r65, r66, r72, r73⟩ := hll
  simp only [r4, r5, r6, r7, r9, r10, r65, r66, r72, r73, cb_lss, pop_some]
  have hi61 : i < 61 := by have := (List.getElem?_eq_some_iff.1 hi).1; rw [hrest.1] at this; exact this
  have hk61 : k < 61 := by omega
  obtain ⟨u, hu⟩ : ∃ u, row[k]? = some u := ⟨_, List.getElem?_eq_getElem (by rw [hrest.1]; exact hk61)⟩
  have hub := hrest.2 u (List.mem_of_getElem? hu)
  rw [decide_eq_true (by omega), cnd_true, cix93 hu hk61, pop_some, cb_gtr, pop_some]
  -- what follows
  have tl : ∀ {M : CM}, M3.le M → j17_0 (RK K Kp) X2 X3 (.int .i64 u) (.int .i64 (hereP d.jump ws.getLast? k u)) (.int .i64 left) v (.int .i64 k) (.int .i64 ws.length) (.int .i64 0) (.pointer (some ⟨t6, 0, none⟩)) (.slice (some ⟨T, 0, none⟩) (w.n + 1) 0) (.int .i64 w.n) (.int .i64 k) (.int .i64 ws.length) (.agg ⟨iv row⟩) [] M := by
    intro M hM
    replace hS := hS.step hM
    unfold j17_0
    rw [cb_gtr, pop_some]
    have no : ¬ (0 < u ∧ hereP d.jump ws.getLast? k u = left) → pop (cbin Try.prog BinOp.add 3 (Operand.tmp 73) (Operand.const (Value.int IntKind.i64 1)) (.int .i64 k) (.int .i64 1)) M (fun t106 m => X3 [v, (.int .i64 0), (.pointer (some ⟨t6, 0, none⟩)), (.slice (some ⟨T, 0, none⟩) (w.n + 1) 0), (.int .i64 left), (.int .i64 ws.length), (.int .i64 w.n), (.int .i64 ws.length), (.agg ⟨iv row⟩), t106] [] m) := by
      intro hno
      rw [cb_add, pop_some, wrap_id (by omega) (by omega)]
      have hne : k ≠ i := fun e => by subst e; rw [hi] at hu; cases hu; exact hno ⟨hn0, hher⟩
      refine hX3 _ _ _ ⟨rfl, hS, k + 1, by omega, ⟨i, n, hi, hn0, hher, by omega⟩, by simp⟩ ?_
      simp only [List.map_cons, List.map_nil, r73]; omega
    by_cases hu0 : 0 < u
    · rw [decide_eq_true hu0]
      simp only [gb_bool, beq_self_eq_true, gop_true, cb_eql, pop_some, cpick_bool, if_true]
      by_cases hh : hereP d.jump ws.getLast? k u = left
      · rw [show (hereP d.jump ws.getLast? k u == left) = true from by simpa using hh, cnd_true]
        refine app1 Try.underlying27 sz3 ze3 ap27 by3 (by decide) (by decide) hS.hv (x := .int .i64 k) rfl (by simp only [iv, List.length_map]; unfold lim; omega) fun b' M5 hb' hn5 hg5 ho5 => ?_
        have hiv : iv ws ++ [.int .i64 k] = iv (ws ++ [(k : Int)]) := by simp [iv]
        rw [hiv] at ho5 ⊢
        have n6 : bn ≠ some t6 := fun e => (hS.nb _ e).2.1 rfl
        have nT : bn ≠ some T := fun e => (hS.nb _ e).2.2 rfl
        have b6 := hS.o6.1; have bT := hS.oT.1; have bm := hS.le.1
        have hS5 : SS m d t6 T c (.slice (some ⟨b', 0, none⟩) (iv (ws ++ [(k : Int)])).length 0) (some b') (ws ++ [(k : Int)]) M5 :=
          ⟨⟨by omega, fun y hy => by rw [hg5 y (by omega) (fun e => by have := (hS.nb _ e).1; omega)]; exact hS.le.2 y hy⟩, ⟨by omega, by rw [hg5 _ b6 n6]; exact hS.o6.2⟩, ⟨by omega, by rw [hg5 _ bT nT]; exact hS.oT.2⟩, .blk ho5, fun y hy => by cases hy; omega⟩
        unfold j17_1
        rw [cb_add, pop_some, wrap_id (by omega) (by omega)]
        refine hX _ _ _ ⟨rfl, _, _, ws ++ [(k : Int)], u, hS5, ?_, by simp; omega, fun hlt => ?_, by simp⟩ ?_
        · intro z hz
          rcases List.mem_append.1 hz with hz | hz
          · exact hlast z hz
          · simp at hz; subst hz; omega
        · simp only [List.length_append, List.length_cons, List.length_nil] at hlt ⊢
          rw [List.getLast?_concat]
          have hu' := hu
          rw [hrw, show w.n - ws.length = (w.n - (ws.length + 1)) + 1 from by omega] at hu'
          obtain ⟨_, hp⟩ := restP_ok hok hwk (w.n - (ws.length + 1)) (by omega)
          rcases hp with e | hp
          · omega
          · exact next_more hp hu' hu0
        · simp only [List.map_cons, List.map_nil, q66]; omega
      · rw [show (hereP d.jump ws.getLast? k u == left) = false from by simpa using hh, cnd_false]
        exact no (fun h => hh h.2)
    · rw [decide_eq_false hu0]
      simp only [gb_bool, show (false == true) = false from rfl, gop_false, cpick_bool, pop_some, Bool.false_eq_true, if_false, cnd_false]
      exact no (fun h => hu0 h.1)
  by_cases hw0 : ws = []
  · subst hw0
    simp only [List.length_nil, Int.natCast_zero, show decide ((0 : Int) < 0) = false from rfl, gb_bool, show (false == true) = false from rfl, dgs_false, gop_false, cpick_bool, pop_some, Bool.false_eq_true, if_false, cnd_false]
    exact tl (.refl _)
  · obtain ⟨p, hp⟩ : ∃ p, ws.getLast? = some p := ⟨_, List.getLast?_eq_some_getLast hw0⟩
    have hpb := hlast p (List.mem_of_getLast? hp)
    have hl0 : 0 < ws.length := List.length_pos_iff.2 hw0
    rw [decide_eq_true (by omega)]
    simp only [gb_bool, beq_self_eq_true, dgs_true, gop_true, fz76_0, fz26_0, pop_some]
    rw [show cload Try.prog 23 (.pointer (some ⟨t6, 0, none⟩)) M3 = some (.agg ⟨d.candle⟩) from hS.o6.cel.za ag23 sz23 (j := 0) (by simp), pop_some, cb_sub, pop_some, wrap_id (by omega) (by omega)]
    have hvs := hS.hv.sl
    obtain ⟨b, o, hia, hcel, hlen'⟩ := hvs.at Try.underlying27 sz3 (i := (ws.length : Int) - 1) (by omega) (by simp only [iv, List.length_map]; omega)
    have hpl : (iv ws).getD ((ws.length : Int) - 1).toNat undef = .int .i64 p := by
      rw [List.getLast?_eq_getElem?] at hp
      rw [show ((ws.length : Int) - 1).toNat = ws.length - 1 from by omega]
      simp [iv, List.getD_eq_getElem?_getD, hp]
    rw [hpl] at hcel
    rw [hia, pop_some, hcel.s0 ag3 rfl, pop_some]
    refine jump44 rfl rfl hpb (by omega) fun M4 hle4 _ => ?_
    rw [cpick_bool, pop_some]
    cases hj : jmpP d.jump p k with
    | true =>
      simp only [if_true, cnd_true]
      rw [cb_add, pop_some, wrap_id (by omega) (by omega)]
      have := tl hle4
      simpa [hereP, hp, hj] using this
    | false =>
      simp only [if_true, cnd_false]
      have := tl hle4
      simpa [hereP, hp, hj] using this
end Go.Proofs.Ytjkfleibnojjaaa.T
end

section
open Go Go.Proofs Go.Proofs.Ytjkfleibnojjaaa
set_option maxRecDepth 100000
namespace Go.Proofs.Ytjkfleibnojjaaa.T
set_option maxHeartbeats 2000000 in
theorem Cost22 {d : SeD} {w : WayD} {m : CM} (hd : d.In m) (hw : w.In m) {K : Value → CM → Prop} {Kp : List PanicEntry → CM → Prop}
    (hK : ∀ m' (a e : Int), m.le m' → K (.tuple ⟨[.int .i64 a, .int .i64 e]⟩) m') : callw Try.prog 22 [.agg ⟨d.cells⟩, w.v] m K Kp := by
  apply c22
  unfold s22
  refine box_of fun t2 m1 hle1 hb2 o2 => ?_
  replace o2 : Own m1 t2 d.cells 0 := o2
  have a1 := hle1.1
  rw [lda o2 ag26 sz26, pop_some]
  refine open39 (hd.le hle1) (hw.s.le hle1) hw.n0 fun m2 e hle2 h2 => ?_
  have a2 := hle2.1
  have hle := hle1.trans hle2
  simp only [cext, List.getElem?_cons_zero, List.getElem?_cons_succ, pop_some]
  refine alw_of ze76 fun t6 m3 hle3 hb6 o6 => store_own o6 (by simp [toL, sz76]) (by simp [toL]) (SeD.one (hd.le (hle.trans hle3))) fun m4 hn4 hx4 o6 => ?_
  replace o6 : Own m4 t6 d.cells 0 := o6
  have a3 := hle3.1
  have c6 := o6.1
  replace hle := hle.trans (le_of_put hle3 hb6 hn4 hx4)
  have fin : ∀ {M : CM} {a e : Int}, m.le M → leaveV Try.prog [.v (.int .i64 a), .v (.int .i64 e)] [] .ret M (RK K Kp) := by
    intro M a e hM
    refine leave_rvs (.v (.v .nil)) ?_
    show RK K Kp (.ret (.tuple ⟨[_, _]⟩)) M
    rw [RK_ret]
    exact hK _ _ _ hM
  rw [cb_neq, pop_some]
  cases hb : (e != 0) with
  | true => rw [cnd_true]; exact fin hle
  | false =>
  obtain ⟨hok, hwn, hwx⟩ := h2 (by simpa using hb)
  have hwk : w.Ok d := ⟨hwn, hwx⟩
  have hn3 := hok.n3
  have hr0 := (hok.r 0 (by omega)).d
  rw [cnd_false, hw.s.len Try.underlying27, pop_some]
  refine loopA_of (fun l0 ds m' => ds = [] ∧ m4.le m' ∧ ∃ (i : Nat) (x : Int), i ≤ w.n ∧ l0 = [w.v, .int .i64 x, .pointer (some ⟨t6, 0, none⟩), w.v, .int .i64 w.n, .int .i64 i])
    (fun l0 _ => match l0 with | [_, _, _, _, _, .int _ i] => w.n - i.toNat | _ => 0) ⟨rfl, .refl _, 0, 0, by omega, rfl⟩ ?_
  rintro X ρ ds m' ⟨rfl, hle', i, x, hi, hll⟩ hX
  simp only [List.map_cons, List.map_nil, List.cons.injEq, and_true] at hll
  obtain ⟨q1, q4, q6, q18, q19, q20⟩ := hll
  simp only [q1, q4, q6, q18, q19, q20, cb_lss, pop_some]
  have h4' := hle'
  replace hle' := hle.trans hle'
  by_cases hci : (i : Int) < (w.n : Int)
  rotate_left
  · rw [decide_eq_false hci, cnd_false]; exact fin hle'
  have hx := hwx i (by omega)
  have o6' := o6.le h4'
  obtain ⟨b, o, hia, hcel, hlen⟩ := (hw.s.le hle').at Try.underlying27 sz3 (i := i) (by omega) (by omega)
  obtain ⟨b2, o2, hia2, hcel2, hlen2⟩ := (hd.s.le hle').at Try.underlying24 sz66 (i := w.x i) hx.1 hx.2
  simp only [Int.toNat_natCast] at hcel hlen
  rw [decide_eq_true hci, cnd_true, hia, pop_some, hcel.s0 ag3 rfl, pop_some]
  simp only [fz76_0, fz26_2, pop_some]
  rw [o6'.cel.z ag24 (j := 5) rfl, pop_some, hia2]
  simp only [pop_some, fa66_1]
  rw [hcel2.s ag3 (j := 1) rfl]
  simp only [pop_some]
  rw [cb_add, pop_some, cb_gtr, pop_some]
  have nx : ∀ {y : Int}, j22_0 (RK K Kp) X (.int .i64 i) w.v (.int .i64 y) (.pointer (some ⟨t6, 0, none⟩)) w.v (.int .i64 w.n) [] m' := by
    intro y
    unfold j22_0
    rw [cb_add, pop_some, wrap_id (by omega) (by omega)]
    refine hX _ _ _ ⟨rfl, h4', i + 1, y, by omega, by simp⟩ ?_
    simp only [List.map_cons, List.map_nil, q20]; omega
  by_cases h0 : (0 : Int) < (i : Int)
  · rw [decide_eq_true h0]
    obtain ⟨b3, o3, hia3, hcel3, hlen3⟩ := (hw.s.le hle').at Try.underlying27 sz3 (i := (i : Int) - 1) (by omega) (by omega)
    simp only [gb_bool, beq_self_eq_true, gop_true]
    rw [cb_sub, pop_some, wrap_id (by omega) (by omega), hia3, pop_some, hcel3.s0 ag3 rfl, pop_some, cb_neq, pop_some, cpick_bool, pop_some]
    simp only [if_true]
    cases (w.x i != w.x ((i : Int) - 1).toNat) with
    | true =>
      rw [cnd_true]
      simp only [fz26_1, pop_some]
      rw [ldi o6' (j := 4) rfl, pop_some, cb_add, pop_some]
      exact nx
    | false => rw [cnd_false]; exact nx
  · rw [decide_eq_false h0]
    simp only [gb_bool, show (false == true) = false from rfl, gop_false, cpick_bool, pop_some, Bool.false_eq_true, if_false, cnd_false]
    exact nx
set_option maxHeartbeats 2000000 in
theorem Keeps24 {d : SeD} {m : CM} {st dy : Int} (hd : d.In m) {K : Value → CM → Prop} {Kp : List PanicEntry → CM → Prop}
    (hK : ∀ m' (a e : Int), m.le m' → K (.tuple ⟨[.int .i64 a, .int .i64 e]⟩) m') : callw Try.prog 24 [.agg ⟨d.cells⟩, .int .i64 st, .int .i64 dy] m K Kp := by
  apply c24
  unfold s24
  refine box_of fun t3 m1 hle1 hb3 o3 => ?_
  replace o3 : Own m1 t3 d.cells 0 := o3
  have a1 := hle1.1
  have c3 := o3.1
  have fin : ∀ {M : CM} {a e : Int}, m.le M → leaveV Try.prog [.v (.int .i64 a), .v (.int .i64 e)] [] .ret M (RK K Kp) := by
    intro M a e hM
    refine leave_rvs (.v (.v .nil)) ?_
    show RK K Kp (.ret (.tuple ⟨[_, _]⟩)) M
    rw [RK_ret]
    exact hK _ _ _ hM
  rw [lda o3 ag26 sz26, pop_some]
  refine check7 (hd.le hle1) fun p a e m2 hle2 h2 => ?_
  have a2 := hle2.1
  have hle := hle1.trans hle2
  simp only [cext, List.getElem?_cons_zero, List.getElem?_cons_succ, pop_some]
  rw [cb_neq, pop_some]
  cases hb : (e != 0) with
  | true => rw [cnd_true]; exact fin hle
  | false =>
  have hok := h2 (by simpa using hb)
  have hn3 := hok.n3
  have hr0 := (hok.r 0 (by omega)).d
  rw [cnd_false, lda (o3.le hle2) ag26 sz26, pop_some, hcb76 hd, pop_some]
  refine alw_of ze76 fun t8 m3 hle3 hb8 o8 => store_own o8 (by simp [toL, sz76]) (by simp [toL]) (SeD.one hd) fun m4 hn4 hx4 o8 => ?_
  replace o8 : Own m4 t8 d.cells 0 := o8
  have a3 := hle3.1
  have c8 := o8.1
  replace hle := hle.trans (le_of_put hle3 hb8 hn4 hx4)
  simp only [fz76_0, fz26_2, pop_some]
  rw [o8.cel.z ag24 (j := 5) rfl, pop_some, hd.s.len Try.underlying24, pop_some, cb_sub, pop_some, wrap_id (by omega) (by omega)]
  refine out_1 fun b5 m5 hle5 h5 => ?_
  replace hle := hle.trans hle5
  replace o8 := o8.le hle5
  have done : ∀ {M : CM} {b : Bool}, m.le M → Own M t8 d.cells 0 → (b = false → (0 ≤ st ∧ st < d.n) ∧ 0 ≤ dy ∧ dy < (d.r 0).n) → cnd (.bool b) (leaveV Try.prog [.v (.int .i64 0), .v (.int .i64 4)] [] .ret M (RK K Kp)) (callw Try.prog 49 [.int .i64 dy] M (fun t39 m => alw Try.prog 103 m (fun t9 m => sop (cstore Try.prog 103 t9 t39 m) (fun _ m => loopA [1, 6, 7, 8, 9] (fun X1 ρ1 ds m => pop (cfa Try.prog 103 0 (ρ1 9)) m (fun t40 _ => pop (cload Try.prog 3 t40 m) m (fun t41 _ => pop (cload Try.prog 76 (ρ1 8) m) m (fun t42 _ => callw Try.prog 48 [t42] m (fun t43 m8_3 => m.le m8_3 ∧ pop (cbin Try.prog BinOp.sub 3 (Operand.tmp 43) (Operand.const (Value.int IntKind.i64 1)) t43 (.int .i64 1)) (memJ m [⟨t40, m.next, none⟩, ⟨t41, m.next, none⟩, ⟨t42, m.next, none⟩, ⟨t43, m.next, some m8_3⟩] (fun i => Nat.testBit 12 i) m8_3.next) (fun t44 _ => pop (cbin Try.prog BinOp.lss 3 (Operand.tmp 41) (Operand.tmp 44) t41 t44) (memJ m [⟨t40, m.next, none⟩, ⟨t41, m.next, none⟩, ⟨t42, m.next, none⟩, ⟨t43, m.next, some m8_3⟩, ⟨t44, m8_3.next, none⟩] (fun _ => true) m8_3.next) (fun t45 m => cnd t45 (pop (cload Try.prog 76 (ρ1 8) m) m (fun t47 m => pop (cload Try.prog 103 (ρ1 9) m) m (fun t48 m => callw Try.prog 50 [t47, t48, (ρ1 1)] m (fun t50 m => pop (cext t50 0) m (fun t51 m => pop (cext t50 1) m (fun t52 m => sop (cstore Try.prog 103 (ρ1 9) t51 m) (fun _ m => pop (cun Try.prog UnOp.not t52) m (fun t54 m => cnd t54 (j24_0 (RK K Kp) (ρ1 6) ds m) (pop (cbin Try.prog BinOp.add 3 (Operand.tmp 55) (Operand.const (Value.int IntKind.i64 1)) (ρ1 6) (.int .i64 1)) m (fun t56 m => X1 [(ρ1 1), t56, (ρ1 7), (ρ1 8), (ρ1 9)] ds m))))))) (fun ch m => leaveV Try.prog [.v (ρ1 6), .v (ρ1 7)] ds (.pan ch) m (RK K Kp))))) (j24_0 (RK K Kp) (ρ1 6) ds m)))) (fun _ _ => False))))) [.int .i64 st, (.int .i64 0), .int .i64 e, .pointer (some ⟨t8, 0, none⟩), t9] [] m))) (fun ch m => RK K Kp (.pan ch) m)) := by
    intro M b hM o8 hbk
    cases b with
    | true => rw [cnd_true]; exact fin hM
    | false =>
    obtain ⟨hst, hdy⟩ := hbk rfl
    rw [cnd_false]
    refine begin49 ⟨hdy.1, by omega⟩ fun m6 hle6 => alw_of ze103' fun t9 m7 hle7 hb9 o9 => store_own o9 (by simpa [toL, zer_len] using sz103) (by simp [toL]) (iv_one _) fun m8 hn8 hx8 o9 => ?_
    have a6 := hle6.1; have a7 := hle7.1
    have c9 := o9.1
    have hle8 : M.le m8 := hle6.trans (le_of_put hle7 hb9 hn8 hx8)
    replace o9 : Own m8 t9 (StD.mk (dy - 1) (-1) 0 zer).cells 0 := o9
    have h89 : t8 < t9 := by have := o8.1; omega
    replace o8 := o8.le hle8
    replace hM := hM.trans hle8
    have hx0 : (StD.mk (dy - 1) (-1) 0 zer).Ok := ⟨by show -1 ≤ dy - 1 ∧ dy - 1 ≤ 8; omega, by show (0 : Int) ≤ 0 ∧ 0 ≤ dy - 1 + 1; omega, zer_len, fun u hu => by have := zer_bd u hu; show 0 ≤ u ∧ u ≤ dy - 1 + 1; omega⟩
    obtain ⟨k, rfl⟩ : ∃ k : Nat, st = k := ⟨st.toNat, by omega⟩
    refine loopA_of (fun l0 ds m' => ds = [] ∧ m.le m' ∧ Own m' t8 d.cells 0 ∧ ∃ (x : StD) (n : Int), x.Ok ∧ x.day < (d.r 0).n ∧ n ≤ x.day + 1 ∧ 0 ≤ n ∧ Own m' t9 x.cells 0 ∧ l0 = [.int .i64 k, .int .i64 n, .int .i64 e, .pointer (some ⟨t8, 0, none⟩), .pointer (some ⟨t9, 0, none⟩)])
      (fun l0 m' => match m'.get t9 with | some (.cells (.int _ i :: _) _ _) => (8 - i).toNat | _ => 0) ⟨rfl, hM, o8, _, 0, hx0, by show dy - 1 < _; omega, by show 0 ≤ dy - 1 + 1; omega, by omega, o9, rfl⟩ ?_
    clear o8 o9 hM
    rintro X ρ ds m' ⟨rfl, hM, o8, x, n, hx, hday, hn1, hn2, o9, hll⟩ hX
    simp only [List.map_cons, List.map_nil, List.cons.injEq, and_true] at hll
    obtain ⟨q1, q6, q7, q8, q9⟩ := hll
    simp only [q1, q6, q7, q8, q9, fz103_0, pop_some]
    rw [ldi o9 (j := 0) rfl]
    simp only [pop_some]
    rw [lda o8 ag76 sz76]
    simp only [pop_some]
    refine days48 (hd.le hM) hn3.1 fun m10 hle10 => ⟨hle10, ?_⟩
    rw [cb_sub, pop_some, wrap_id (by omega) (by omega), cb_lss, pop_some]
    generalize hMV : memJ m' _ (fun _ => true) m10.next = MV
    have hV : m10.le MV := hMV ▸ view1 hle10 (Nat.le_refl _) rfl
    clear hMV
    have hMV := hle10.trans hV
    replace o8 := o8.le hMV
    have o9' := o9.le hMV
    have hjd : j24_0 (RK K Kp) (.int .i64 n) [] MV := by unfold j24_0; exact fin (hM.trans hMV)
    by_cases hc : x.day < ((d.r 0).n : Int) - 1
    rotate_left
    · rw [decide_eq_false hc, cnd_false]; exact hjd
    have c8' := o8.1; have c9' := o9'.1
    rw [decide_eq_true hc, cnd_true, lda o8 ag76 sz76, pop_some, lda o9' ag103 (sz103' hx.js), pop_some]
    refine after50 (hd.le (hM.trans hMV)) hok hx (by omega) (k := k) (by omega) fun m11 hle11 => ?_
    simp only [cext, List.getElem?_cons_zero, List.getElem?_cons_succ, pop_some]
    have hx' := afterP_ok (d := d) (k := k) hx (by omega)
    refine store_own (o9'.le hle11) (by simpa [toL] using sz103' hx'.js) (by simp [toL, hx'.js, hx.js]) (StD.one _) fun m12 hn12 hx12 o9'' => ?_
    replace o9'' : Own m12 t9 (d.afterP x k).cells 0 := o9''
    replace hM := le_of_put ((hM.trans hMV).trans hle11) (b := t9) (by have := hle.1; omega) hn12 hx12
    rw [cun_not, pop_some]
    cases d.okP x k with
    | false => rw [show (!false) = true from rfl, cnd_true]; unfold j24_0; exact fin hM
    | true =>
      have hxd := hx.day
      rw [show (!true) = false from rfl, cnd_false, cb_add, pop_some, wrap_id (by omega) (by omega)]
      refine hX _ _ _ ⟨rfl, hM, (o8.le hle11).sub hn12 (hx12 _ (by omega)), d.afterP x k, n + 1, hx', by show x.day + 1 < _; omega, by show n + 1 ≤ x.day + 1 + 1; omega, by omega, o9'', rfl⟩ ?_
      rw [o9''.2, o9.2]
      show (8 - (x.day + 1)).toNat < (8 - x.day).toNat
      omega
  cases b5 with
  | true =>
    simp only [gb_bool, show (true == false) = false from rfl, gop_false, cpick_bool, if_true, pop_some]
    exact done hle o8 (by simp)
  | false =>
    simp only [gb_bool, beq_self_eq_true, gop_true]
    rw [lda o8 ag76 sz76, pop_some]
    refine days48 (hd.le hle) hn3.1 fun m6 hle6 => ?_
    rw [cb_sub, pop_some, wrap_id (by omega) (by omega)]
    refine out_1 fun b7 m7 hle7 h7 => ?_
    rw [cpick_bool, pop_some]
    simp only [Bool.false_eq_true, if_false]
    exact done ((hle.trans hle6).trans hle7) ((o8.le hle6).le hle7) (fun e => by have := h5 rfl; have := h7 e; omega)
end Go.Proofs.Ytjkfleibnojjaaa.T
end

section
open Go Go.Proofs Go.Proofs.Ytjkfleibnojjaaa
set_option maxRecDepth 100000
namespace Go.Proofs.Ytjkfleibnojjaaa.T
/-! ### What is known -/
abbrev Ent3 := List Int × Int × Int
def ent (e : Ent3) : Value × Value := (.agg ⟨iv e.1⟩, .agg ⟨[.int .i64 e.2.1, .int .i64 e.2.2]⟩)
def lkP : List Ent3 → List Int → Option (Int × Int)
  | [], _ => none
  | e :: es, k => if e.1 = k then some e.2 else lkP es k
theorem lkP_app {p : Int × Int} {k k' : List Int} : ∀ {es : List Ent3}, lkP (es ++ [(k, p)]) k' = match lkP es k' with | some q => some q | none => if k = k' then some p else none
  | [] => rfl
  | e :: es => by
    simp only [List.cons_append, lkP]
    by_cases h : e.1 = k'
    · rw [if_pos h, if_pos h]
    · rw [if_neg h, if_neg h, lkP_app]
theorem kt103 : ktL Try.prog 8 103 = some 64 := by kernel_rfl
theorem zv110 : zeroV Try.prog 110 = some (.agg ⟨[.int .i64 0, .int .i64 0]⟩) := by kernel_rfl
theorem find103 {k : List Int} (hk : k.length = 64) : ∀ {es : List Ent3}, (∀ e ∈ es, e.1.length = 64) → ∀ i, match lkP es k with
    | some p => ∃ j, cfindA Try.prog 103 (.agg ⟨iv k⟩) (es.map ent) i = some (some (j, .agg ⟨[.int .i64 p.1, .int .i64 p.2]⟩))
    | none => cfindA Try.prog 103 (.agg ⟨iv k⟩) (es.map ent) i = some none
  | [], _, i => rfl
  | e :: es, h, i => by
    have he := kt_equal kt103 ag103 hk (h e (by simp))
    have ih := find103 hk (es := es) (fun e he => h e (by simp [he])) (i + 1)
    by_cases hc : e.1 = k
    · simp only [lkP, if_pos hc]
      refine ⟨i, ?_⟩
      rw [decide_eq_true hc.symm] at he
      simp only [List.map_cons, cfindA, ent, he]
    · simp only [lkP, if_neg hc]
      have hc' : ¬ (k = e.1) := fun h => hc h.symm
      rw [decide_eq_false hc'] at he
      simp only [List.map_cons, cfindA, ent, he]
      exact ih
theorem find103' {k : List Int} (hk : k.length = 64) {es : List Ent3} (h : ∀ e ∈ es, e.1.length = 64) : match lkP es k with
    | some p => ∃ j, cfind Try.prog 103 (.agg ⟨iv k⟩) (es.map ent) = some (some (j, .agg ⟨[.int .i64 p.1, .int .i64 p.2]⟩))
    | none => cfind Try.prog 103 (.agg ⟨iv k⟩) (es.map ent) = some none := by
  rw [cfind_agg Try.underlying103]
  exact find103 hk h 0
theorem clk107 {k : List Int} (hk : k.length = 64) {es : List Ent3} (h : ∀ e ∈ es, e.1.length = 64) {M : CM} {MP : Nat} (hm : M.get MP = some (.map (es.map ent))) :
    clk Try.prog 107 (.map (some MP)) (.agg ⟨iv k⟩) true M = some (match lkP es k with | some p => .tuple ⟨[.agg ⟨[.int .i64 p.1, .int .i64 p.2]⟩, .bool true]⟩ | none => .tuple ⟨[.agg ⟨[.int .i64 0, .int .i64 0]⟩, .bool false]⟩) := by
  have hf := find103' hk h
  simp only [clk, Try.underlying107, centries, hm, kt_ckeyB kt103 ag103 _ hk]
  cases hl : lkP es k with
  | none => rw [hl] at hf; simp only [hf, zv110]
  | some p => rw [hl] at hf; obtain ⟨j, hf⟩ := hf; simp only [hf]
theorem cmapU107 {k : List Int} (hk : k.length = 64) {es : List Ent3} (h : ∀ e ∈ es, e.1.length = 64) {M : CM} {MP : Nat} (hm : M.get MP = some (.map (es.map ent))) (hl : lkP es k = none) {a b : Int} :
    cmapU Try.prog 107 (.map (some MP)) (.agg ⟨iv k⟩) (.agg ⟨[.int .i64 a, .int .i64 b]⟩) M = some (M.put MP (.map ((es ++ [(k, a, b)]).map ent))) := by
  have hf := find103' hk h
  rw [hl] at hf
  simp only [cmapU, Try.underlying107, hm, kt_ckeyB kt103 ag103 _ hk, hf, List.map_append, List.map_cons, List.map_nil, ent]
/-! ### What is right about it -/
abbrev StD.ks (x : StD) : List Int := x.day :: x.store :: x.hot :: x.js
theorem StD.ks_len {x : StD} (h : x.Ok) : x.ks.length = 64 := by simp [StD.ks, h.js]
theorem StD.ks_inj {x y : StD} (h : x.ks = y.ks) : x = y := by
  cases x; cases y; simp only [StD.ks, List.cons.injEq] at h; obtain ⟨rfl, rfl, rfl, rfl⟩ := h; rfl
/-- From a state on there is a way: the last day, or a plan that is known. -/
def Fin1 (d : SeD) (es : List Ent3) (z : StD) : Prop := z.day + 1 = (d.r 0).n ∨ ∃ q, lkP es z.ks = some q ∧ 0 ≤ q.1
def PlanOk (d : SeD) (es : List Ent3) (y : StD) (p : Int × Int) : Prop :=
  p.1 < 0 ∨ ((0 ≤ p.1 ∧ p.1 ≤ 200000 * ((d.r 0).n - 1 - y.day)) ∧ ∃ k : Nat, p.2 = k ∧ k < d.n ∧ Fin1 d es (d.afterP y k))
def Good (d : SeD) (es : List Ent3) : Prop := ∀ y p, lkP es y.ks = some p → PlanOk d es y p
def Ext (es es' : List Ent3) : Prop := ∀ k p, lkP es k = some p → lkP es' k = some p
/-- Only days from one on were added. -/
def Add (es es' : List Ent3) (day : Int) : Prop := ∀ (y : StD) p, lkP es' y.ks = some p → lkP es y.ks = some p ∨ day ≤ y.day
theorem Ext.refl (es : List Ent3) : Ext es es := fun _ _ h => h
theorem Ext.trans {a b c : List Ent3} (h : Ext a b) (k : Ext b c) : Ext a c := fun x p hx => k x p (h x p hx)
theorem Add.refl (es : List Ent3) (day : Int) : Add es es day := fun _ _ h => .inl h
theorem Add.trans {a b c : List Ent3} {x y : Int} (h : Add a b x) (k : Add b c y) (hxy : x ≤ y) : Add a c x := fun z p hz => by
  rcases k z p hz with h1 | h1
  · exact h z p h1
  · exact .inr (by omega)
theorem Fin1.ext {d : SeD} {es es' : List Ent3} {z : StD} (h : Fin1 d es z) (k : Ext es es') : Fin1 d es' z := by
  rcases h with h | ⟨q, h1, h2⟩
  · exact .inl h
  · exact .inr ⟨q, k _ _ h1, h2⟩
theorem PlanOk.ext {d : SeD} {es es' : List Ent3} {y : StD} {p : Int × Int} (h : PlanOk d es y p) (k : Ext es es') : PlanOk d es' y p := by
  rcases h with h | ⟨h1, j, h2, h3, h4⟩
  · exact .inl h
  · exact .inr ⟨h1, j, h2, h3, h4.ext k⟩
theorem ext_app {es : List Ent3} {k : List Int} {p : Int × Int} : Ext es (es ++ [(k, p)]) := fun k' q h => by rw [lkP_app, h]
theorem good_app {d : SeD} {es : List Ent3} {x : StD} {p : Int × Int} (h : Good d es) (hp : PlanOk d es x p) : Good d (es ++ [(x.ks, p)]) := by
  intro y q hy
  rw [lkP_app] at hy
  cases hl : lkP es y.ks with
  | some q' =>
    rw [hl] at hy
    simp only [Option.some.injEq] at hy
    subst hy
    exact (h y q' hl).ext ext_app
  | none =>
    rw [hl] at hy
    simp only at hy
    split at hy
    · rename_i e
      cases hy
      rw [← StD.ks_inj e]
      exact hp.ext ext_app
    · cases hy
theorem add_app {es : List Ent3} {x : StD} {p : Int × Int} : Add es (es ++ [(x.ks, p)]) x.day := by
  intro y q hy
  rw [lkP_app] at hy
  cases hl : lkP es y.ks with
  | some q' => rw [hl] at hy; exact .inl hy
  | none =>
    rw [hl] at hy
    simp only at hy
    split at hy
    · rename_i e
      rw [StD.ks_inj e]; exact .inr (Int.le_refl _)
    · cases hy
theorem lk_app {es : List Ent3} {k : List Int} {p : Int × Int} (h : lkP es k = none) : lkP (es ++ [(k, p)]) k = some p := by
  rw [lkP_app, h]; simp
end Go.Proofs.Ytjkfleibnojjaaa.T
end

section
open Go Go.Proofs Go.Proofs.Ytjkfleibnojjaaa
set_option maxRecDepth 100000
namespace Go.Proofs.Ytjkfleibnojjaaa.T
abbrev pt (b : Nat) : Value := .pointer (some ⟨b, 0, none⟩)
/-- The season, the map's variable, the function's own, and the map. -/
structure HS (d : SeD) (m0 : CM) (S Q F MP : Nat) (es : List Ent3) (M : CM) : Prop where
  le : m0.le M
  s : Own M S d.cells 0
  q : Own M Q [.map (some MP)] 0
  f : Own M F [.func (.func 51) ⟨[]⟩ ⟨[pt S, pt Q, pt F]⟩] 0
  mp : M.get MP = some (.map (es.map ent))
  ml : MP < M.next
  kl : ∀ e ∈ es, e.1.length = 64
  g : m0.next ≤ MP
  n : S ≠ MP ∧ Q ≠ MP ∧ F ≠ MP
theorem HS.step {d : SeD} {m0 M M' : CM} {S Q F MP : Nat} {es : List Ent3} (h : HS d m0 S Q F MP es M) (k : M.le M') : HS d m0 S Q F MP es M' :=
  ⟨h.le.trans k, h.s.le k, h.q.le k, h.f.le k, by rw [k.2 _ h.ml]; exact h.mp, Nat.lt_of_lt_of_le h.ml k.1, h.kl, h.g, h.n⟩
/-- A block of one's own changes. -/
theorem HS.wr {d : SeD} {m0 m1 M M' : CM} {S Q F MP b : Nat} {es es1 : List Ent3} (h : HS d m0 S Q F MP es M) (h1 : HS d m0 S Q F MP es1 m1) (hb : m1.next ≤ b) (hn : M'.next = M.next) (hx : ∀ x, x ≠ b → M'.get x = M.get x) : HS d m0 S Q F MP es M' := by
  have e1 := h1.s.1; have e2 := h1.q.1; have e3 := h1.f.1; have e4 := h1.ml; have e5 := h1.le.1
  exact ⟨le_of_put h.le (b := b) (by omega) hn hx, h.s.sub hn (hx _ (by omega)), h.q.sub hn (hx _ (by omega)), h.f.sub hn (hx _ (by omega)), by rw [hx _ (by omega)]; exact h.mp, by rw [hn]; exact h.ml, h.kl, h.g, h.n⟩
theorem Add.mono {es es' : List Ent3} {a b : Int} (h : Add es es' a) (hab : b ≤ a) : Add es es' b := fun y p hy => by
  rcases h y p hy with h | h
  · exact .inl h
  · exact .inr (by omega)
theorem hcb110 (a b : Int) : cbuild Try.prog 110 [(0, .int .i64 a), (1, .int .i64 b)] = some (.agg ⟨[.int .i64 a, .int .i64 b]⟩) := by kernel_rfl
theorem _root_.Go.Proofs.Ytjkfleibnojjaaa.KeepX.wr2 {m M M' : CM} {B b : Nat} (h : KeepX m B M) (hb : m.next ≤ b) (hn : M'.next = M.next) (hx : ∀ x, x ≠ b → M'.get x = M.get x) : KeepX m B M' := ⟨by rw [hn]; exact h.1, fun y hy hne => by rw [hx y (by omega)]; exact h.2 y hy hne⟩
/-- What rest answers. -/
def RestOk (d : SeD) (m0 : CM) (S Q F MP : Nat) (k : Nat) : Prop := ∀ (x : StD) (es : List Ent3) (M : CM), x.Ok → x.day + 1 + k = (d.r 0).n → HS d m0 S Q F MP es M → Good d es → ∀ (K : Value → CM → Prop) (Kp : List PanicEntry → CM → Prop),
    (∀ M' es' (p : Int × Int), KeepX M MP M' → HS d m0 S Q F MP es' M' → Good d es' → Ext es es' → Add es es' x.day → (p.1 < 0 ∨ (0 ≤ p.1 ∧ p.1 ≤ 200000 * k)) → (0 < k → lkP es' x.ks = some p) → K (.agg ⟨[.int .i64 p.1, .int .i64 p.2]⟩) M') →
    callw Try.prog 51 [.agg ⟨x.cells⟩, pt S, pt Q, pt F] M K Kp
theorem leave110 {t5 : Nat} {M : CM} {a b : Int} {K : Value → CM → Prop} {Kp : List PanicEntry → CM → Prop} (h : Own M t5 [.int .i64 a, .int .i64 b] 0) (hK : K (.agg ⟨[.int .i64 a, .int .i64 b]⟩) M) : leaveV Try.prog [.c 110 (pt t5)] [] .ret M (RK K Kp) := by
  refine leave_rvs (.c (lda h ag110 sz110) .nil) ?_
  show RK K Kp (.ret (.agg ⟨_⟩)) M
  rw [RK_ret]
  exact hK
set_option maxHeartbeats 8000000 in
theorem rest51 {d : SeD} {m0 : CM} {S Q F MP : Nat} (hd : d.In m0) (hok : d.Ok) : ∀ k, RestOk d m0 S Q F MP k
  | 0 => fun x es M hx hday hH hG K Kp hK => by
    have hn3 := hok.n3
    have hr0 := (hok.r 0 (by omega)).d
    apply c51
    unfold s51
    refine box_of fun t4 m1 hle1 hb4 o4 => alw_of ze110 fun t5 m2 hle2 hb5 o5 => ?_
    replace o4 : Own m1 t4 x.cells 0 := o4
    have a1 := hle1.1; have a2 := hle2.1
    have c4 := o4.1; have c5 := o5.1
    have hle := hle1.trans hle2
    have hH2 := hH.step hle
    replace o4 := o4.le hle2
    simp only [fz103_0, pop_some]
    rw [ldi o4 (j := 0) rfl]
    simp only [pop_some]
    rw [lda hH2.s ag76 sz76]
    simp only [pop_some]
    refine days48 (hd.le hH2.le) hn3.1 fun m3 hle3 => ⟨hle3, ?_⟩
    rw [cb_sub, pop_some, wrap_id (by omega) (by omega), cb_eql, pop_some]
    generalize hMV : memJ m2 _ (fun _ => true) m3.next = MV
    have hV : m3.le MV := hMV ▸ view1 hle3 (Nat.le_refl _) rfl
    clear hMV
    replace hV := hle3.trans hV
    rw [show (x.day == ((d.r 0).n : Int) - 1) = true from by simp; omega, cnd_true, hcb110, pop_some]
    refine store_own (o5.le hV) (by simp [toL, sz110]) (by simp [toL]) rfl fun m4 hn4 hx4 o5 => ?_
    simp only [toL] at o5
    exact leave110 o5 (hK _ es (0, -1) ((KeepX.of_le (hle.trans hV)).wr2 (b := t5) (by omega) hn4 hx4) ((hH2.step hV).wr hH (by omega) hn4 hx4) hG (Ext.refl _) (Add.refl _ _) (.inr ⟨by decide, by simp⟩) (by omega))
  | k + 1 => fun x es M hx hday hH hG K Kp hK => by
    have ih := rest51 (S := S) (Q := Q) (F := F) (MP := MP) hd hok k
    have hn3 := hok.n3
    have hr0 := (hok.r 0 (by omega)).d
    have hmv := hok.move
    have hxd := hx.day
    apply c51
    unfold s51
    refine box_of fun t4 m1 hle1 hb4 o4 => alw_of ze110 fun t5 m2 hle2 hb5 o5 => ?_
    replace o4 : Own m1 t4 x.cells 0 := o4
    have a1 := hle1.1; have a2 := hle2.1
    have c4 := o4.1; have c5 := o5.1
    have hle := hle1.trans hle2
    have hH2 := hH.step hle
    replace o4 := o4.le hle2
    simp only [fz103_0, pop_some]
    rw [ldi o4 (j := 0) rfl]
    simp only [pop_some]
    rw [lda hH2.s ag76 sz76]
    simp only [pop_some]
    refine days48 (hd.le hH2.le) hn3.1 fun m3 hle3 => ⟨hle3, ?_⟩
    rw [cb_sub, pop_some, wrap_id (by omega) (by omega), cb_eql, pop_some]
    generalize hMV : memJ m2 _ (fun _ => true) m3.next = MV
    have hV : m3.le MV := hMV ▸ view1 hle3 (Nat.le_refl _) rfl
    clear hMV
    replace hV := hle3.trans hV
    replace hH2 := hH2.step hV
    replace o4 := o4.le hV
    replace o5 := o5.le hV
    replace hle := hle.trans hV
    have aV := hle.1
    have aV2 := hV.1
    rw [show (x.day == ((d.r 0).n : Int) - 1) = false from by simp; omega, cnd_false, hH2.q.cel.z ag107 (j := 0) rfl, pop_some, lda o4 ag103 (sz103' hx.js), pop_some]
    show pop (clk Try.prog 107 (.map (some MP)) (.agg ⟨iv x.ks⟩) true MV) MV _
    rw [clk107 (StD.ks_len hx) hH2.kl hH2.mp, pop_some]
    cases hl : lkP es x.ks with
    | some p =>
      simp only [cext, List.getElem?_cons_zero, List.getElem?_cons_succ, pop_some]
      refine alw_of ze110 fun t6 m4 hle4 hb6 o6 => store_own o6 (by simp [toL, sz110]) (by simp [toL]) rfl fun m5 hn5 hx5 o6 => ?_
      simp only [toL] at o6
      have a4 := hle4.1
      have h5 := le_of_put hle4 hb6 hn5 hx5
      rw [cnd_true, lda o6 ag110 sz110, pop_some]
      refine store_own (o5.le h5) (by simp [toL, sz110]) (by simp [toL]) rfl fun m6 hn6 hx6 o5 => ?_
      simp only [toL] at o5
      refine leave110 o5 (hK _ es p ((KeepX.of_le (hle.trans h5)).wr2 (b := t5) (by omega) hn6 hx6) ((hH2.step h5).wr hH (by omega) hn6 hx6) hG (Ext.refl _) (Add.refl _ _) ?_ (fun _ => hl))
      rcases hG _ _ hl with h | ⟨⟨h1, h2⟩, _⟩
      · exact .inl h
      · exact .inr ⟨h1, by omega⟩
    | none =>
      simp only [cext, List.getElem?_cons_zero, List.getElem?_cons_succ, pop_some]
      refine alw_of ze110 fun t6 m4 hle4 hb6 o6 => store_own o6 (by simp [toL, sz110]) (by simp [toL]) rfl fun m5 hn5 hx5 o6 => ?_
      have a4 := hle4.1
      have h5 := le_of_put hle4 hb6 hn5 hx5
      have c6 := o6.1
      rw [cnd_false, hcb110, pop_some]
      refine alw_of ze110 fun t8 m6 hle6 hb8 o8 => store_own o8 (by simp [toL, sz110]) (by simp [toL]) rfl fun m7 hn7 hx7 o8 => ?_
      simp only [toL] at o8
      have a6 := hle6.1
      have c8 := o8.1
      have h7 := h5.trans (le_of_put hle6 hb8 hn7 hx7)
      replace hH2 := hH2.step h7
      replace o4 := o4.le h7
      replace o5 := o5.le h7
      replace hle := hle.trans h7
      simp only [fz76_0, fz26_2, pop_some]
      rw [hH2.s.cel.z ag24 (j := 5) rfl, pop_some, hd.s.len Try.underlying24, pop_some]
      refine loopA_of (fun l0 ds M1 => ds = [] ∧ ∃ (es1 : List Ent3) (bc bs : Int) (i : Nat), i ≤ d.n ∧ KeepX M MP M1 ∧ HS d m0 S Q F MP es1 M1 ∧ Good d es1 ∧ Ext es es1 ∧ Add es es1 (x.day + 1) ∧ Own M1 t4 x.cells 0 ∧ Own M1 t5 [.int .i64 0, .int .i64 0] 0 ∧ Own M1 t8 [.int .i64 bc, .int .i64 bs] 0 ∧ PlanOk d es1 x (bc, bs) ∧
          l0 = [pt S, pt Q, pt F, pt t4, pt t5, pt t8, d.v, .int .i64 d.n, .int .i64 i])
        (fun l0 _ => match l0 with | [_, _, _, _, _, _, _, _, .int _ i] => d.n - i.toNat | _ => 0)
        ⟨rfl, es, -1, -1, 0, by omega, KeepX.of_le hle, hH2, hG, Ext.refl _, Add.refl _ _, o4, o5, o8, .inl (by decide), rfl⟩ ?_
      clear o4 o5 o8 o6 hH2 hle h7 h5 hx5 hx7 hV hle1 hle2 hle3 hle4 hle6
      rintro X ρ ds M1 ⟨rfl, es1, bc, bs, i, hi, kM, hH1, hG1, hE1, hA1, o4, o5, o8, hP1, hll⟩ hX
      simp only [List.map_cons, List.map_nil, List.cons.injEq, and_true] at hll
      obtain ⟨q1, q2, q3, q4, q5, q8, q32, q33, q34⟩ := hll
      simp only [q1, q2, q3, q4, q5, q8, q32, q33, q34, cb_lss, pop_some]
      have b4 := o4.1; have b5 := o5.1; have b8 := o8.1; have bM := kM.1
      by_cases hci : (i : Int) < (d.n : Int)
      rotate_left
      · rw [decide_eq_false hci, cnd_false]
        have hnone : lkP es1 x.ks = none := by
          cases hq : lkP es1 x.ks with
          | none => rfl
          | some q =>
            rcases hA1 x q hq with h | h
            · rw [hl] at h; cases h
            · omega
        rw [hH1.q.cel.z ag107 (j := 0) rfl, pop_some, lda o4 ag103 (sz103' hx.js), pop_some, lda o8 ag110 sz110, pop_some]
        refine ⟨_, cmapU107 (StD.ks_len hx) hH1.kl hH1.mp hnone, ?_⟩
        have hne4 : t4 ≠ MP := by have := hH.ml; omega
        have hne5 : t5 ≠ MP := by have := hH.ml; omega
        have hne8 : t8 ≠ MP := by have := hH.ml; omega
        have hnn := hH1.n
        generalize hM2 : M1.put MP (.map ((es1 ++ [(x.ks, bc, bs)]).map ent)) = M2
        have hn2 : M2.next = M1.next := by subst hM2; rfl
        have hx2 : ∀ y, y ≠ MP → M2.get y = M1.get y := fun y hy => by subst hM2; rw [CM.get_put, if_neg hy]
        have hg2 : M2.get MP = some (.map ((es1 ++ [(x.ks, bc, bs)]).map ent)) := by subst hM2; rw [CM.get_put, if_pos rfl]
        clear hM2
        have hH2 : HS d m0 S Q F MP (es1 ++ [(x.ks, bc, bs)]) M2 := ⟨le_of_put hH1.le hH1.g hn2 hx2, hH1.s.sub hn2 (hx2 _ hnn.1), hH1.q.sub hn2 (hx2 _ hnn.2.1), hH1.f.sub hn2 (hx2 _ hnn.2.2), hg2, by rw [hn2]; exact hH1.ml, fun e he => by
          rcases List.mem_append.1 he with he | he
          · exact hH1.kl e he
          · simp at he; subst he; exact StD.ks_len hx, hH1.g, hH1.n⟩
        rw [lda (o8.sub hn2 (hx2 _ hne8)) ag110 sz110, pop_some]
        refine store_own (o5.sub hn2 (hx2 _ hne5)) (by simp [toL, sz110]) (by simp [toL]) rfl fun m9 hn9 hx9 o5 => ?_
        simp only [toL] at o5
        have kM2 : KeepX M MP M2 := ⟨by rw [hn2]; exact kM.1, fun y hy hne => by rw [hx2 _ hne]; exact kM.2 y hy hne⟩
        refine leave110 o5 (hK _ _ (bc, bs) (kM2.wr2 (b := t5) (by omega) hn9 hx9) (hH2.wr hH (by omega) hn9 hx9) (good_app hG1 hP1) (hE1.trans ext_app) (Add.trans (hA1.mono (by omega)) add_app (Int.le_refl _)) ?_ (fun _ => lk_app hnone))
        rcases hP1 with h | ⟨⟨h1, h2⟩, _⟩
        · exact .inl h
        · exact .inr ⟨h1, by omega⟩
      have nx : ∀ {es2 : List Ent3} {bc bs : Int} {M2 : CM}, KeepX M MP M2 → HS d m0 S Q F MP es2 M2 → Good d es2 → Ext es es2 → Add es es2 (x.day + 1) → Own M2 t4 x.cells 0 → Own M2 t5 [.int .i64 0, .int .i64 0] 0 → Own M2 t8 [.int .i64 bc, .int .i64 bs] 0 → PlanOk d es2 x (bc, bs) → j51_0 (RK K Kp) X (.int .i64 i) (pt S) (pt Q) (pt F) (pt t4) (pt t5) (pt t8) d.v (.int .i64 d.n) [] M2 := by
        intro es2 bc bs M2 k2 h2 g2 e2 ad2 p4 p5 p8 pl
        unfold j51_0
        rw [cb_add, pop_some, wrap_id (by omega) (by omega)]
        refine hX _ _ _ ⟨rfl, es2, bc, bs, i + 1, by omega, k2, h2, g2, e2, ad2, p4, p5, p8, pl, by simp⟩ ?_
        simp only [List.map_cons, List.map_nil, q34]; omega
      have hin : i < d.n := by omega
      have hri := hok.r i hin
      obtain ⟨b, o, hia, hcel, hlen⟩ := (hd.le hH1.le).s.at Try.underlying24 sz66 (i := i) (by omega) (by omega)
      simp only [Int.toNat_natCast] at hcel hlen
      rw [decide_eq_true hci, cnd_true, hia, pop_some, hcel.elv ag66 sz66 hlen (by decide), pop_some]
      refine alw_of ze66 fun t10 m9 hle9 hb10 o10 => store_own o10 (v := .agg ⟨(d.r i).row⟩) (by simp [toL, sz66]) (by simp [toL]) (StR.one (hd.c i hin)) fun mA hnA hxA o10 => ?_
      replace o10 : Own mA t10 (d.r i).row 0 := o10
      have a9 := hle9.1
      have b10 := o10.1
      have hA := le_of_put hle9 hb10 hnA hxA
      have hHA := hH1.step hA
      rw [lda hHA.s ag76 sz76, pop_some, lda (o4.le hA) ag103 (sz103' hx.js), pop_some]
      refine after50 (hd.le hHA.le) hok hx (by omega) hin fun mB hleB => ?_
      simp only [cext, List.getElem?_cons_zero, List.getElem?_cons_succ, pop_some]
      have hz := afterP_ok (d := d) (k := i) hx (by omega)
      have hzd : (d.afterP x i).day = x.day + 1 := rfl
      generalize hzz : d.afterP x i = z at hz hzd ⊢
      refine alw_of ze103' fun t11 mC hleC hb11 o11 => store_own o11 (by simpa [toL] using sz103' hz.js) (by simp [toL, hz.js, zer_len]) (StD.one _) fun mD hnD hxD o11 => ?_
      replace o11 : Own mD t11 z.cells 0 := o11
      have aB := hleB.1; have aC := hleC.1
      have b11 := o11.1
      have hD := (hA.trans hleB).trans (le_of_put hleC hb11 hnD hxD)
      have hBD := hleB.trans (le_of_put hleC hb11 hnD hxD)
      have hHD := hH1.step hD
      replace o10 := o10.le hBD
      rw [cun_not, pop_some]
      cases hokP : d.okP x i with
      | false =>
        rw [show (!false) = true from rfl, cnd_true]
        exact nx (kM.le hD) hHD hG1 hE1 hA1 (o4.le hD) (o5.le hD) (o8.le hD) hP1
      | true =>
      rw [show (!true) = false from rfl, cnd_false, hHD.f.cel.z ag108 (j := 0) rfl, pop_some, lda o11 ag103 (sz103' hz.js), pop_some]
      show callw Try.prog 51 [.agg ⟨z.cells⟩, pt S, pt Q, pt F] mD _ _
      refine ih z es1 mD hz (by omega) hHD hG1 _ _ fun mE es2 p kE hHE hG2 hE2 hA2 hpb hpl => ?_
      have hml := hH.ml
      have aE := kE.1
      have p4 := Own.keepX (o4.le hD) kE (by omega)
      have p5 := Own.keepX (o5.le hD) kE (by omega)
      have p8 := Own.keepX (o8.le hD) kE (by omega)
      have p10 := Own.keepX o10 kE (by omega)
      have kME : KeepX M MP mE := (kM.le hD).trans kE
      have hPl2 : PlanOk d es2 x (bc, bs) := hP1.ext hE2
      have hEE : Ext es es2 := hE1.trans hE2
      have hAA : Add es es2 (x.day + 1) := Add.trans hA1 hA2 (by omega)
      refine alw_of ze110 fun t13 mF hleF hb13 o13 => store_own o13 (by simp [toL, sz110]) (by simp [toL]) rfl fun mG hnG hxG o13 => ?_
      simp only [toL] at o13
      have aF := hleF.1
      have b13 := o13.1
      have hG' := le_of_put hleF hb13 hnG hxG
      have hHG := hHE.step hG'
      replace p4 := p4.le hG'
      replace p5 := p5.le hG'
      replace p8 := p8.le hG'
      replace p10 := p10.le hG'
      have kMG := kME.le hG'
      simp only [fz110_0, pop_some]
      rw [ldi o13 (j := 0) rfl, pop_some, cb_lss, pop_some]
      by_cases hp0 : p.1 < 0
      · rw [decide_eq_true hp0, cnd_true]
        exact nx kMG hHG hG2 hEE hAA p4 p5 p8 hPl2
      have hpb' : 0 ≤ p.1 ∧ p.1 ≤ 200000 * k := by rcases hpb with h | h; exact absurd h hp0; exact h
      have hrent := hri.rent
      have hkb : k ≤ 8 := by omega
      simp only [decide_eq_false hp0, fz66_1, fz103_1, fz76_0, fz26_1, pop_some]
      rw [cnd_false, ldi o13 (j := 0) rfl, pop_some, ldi p10 (j := 1) rfl, pop_some, cb_add, pop_some, wrap_id (by omega) (by omega)]
      refine o13.store (o := 0) sz3 (by simp [toL]) rfl fun mH hnH hxH o13 => ?_
      replace o13 : Own mH t13 [.int .i64 (p.1 + (d.r i).rent), .int .i64 p.2] 0 := o13
      have hHH := hHG.wr hH (b := t13) (by omega) hnH hxH
      replace kMH := kMG.wr2 (b := t13) (by omega) hnH hxH
      replace p4 := p4.sub hnH (hxH _ (by omega))
      replace p5 := p5.sub hnH (hxH _ (by omega))
      replace p8 := p8.sub hnH (hxH _ (by omega))
      have hfin : Fin1 d es2 (d.afterP x i) := by
        rw [hzz]
        by_cases hk0 : k = 0
        · exact .inl (by omega)
        · exact .inr ⟨p, hpl (by omega), by omega⟩
      have cmp : ∀ {M2 : CM} {c s : Int}, KeepX M MP M2 → HS d m0 S Q F MP es2 M2 → Own M2 t4 x.cells 0 → Own M2 t5 [.int .i64 0, .int .i64 0] 0 → Own M2 t8 [.int .i64 bc, .int .i64 bs] 0 → Own M2 t13 [.int .i64 c, .int .i64 s] 0 → (0 ≤ c ∧ c ≤ 200000 * (k + 1)) → j51_1 (RK K Kp) X (pt t8) (pt t13) (.int .i64 i) (.int .i64 i) (pt S) (pt Q) (pt F) (pt t4) (pt t5) d.v (.int .i64 d.n) [] M2 := by
        intro M2 c s k2 h2 p4 p5 p8 p13 hc
        have b8 := p8.1
        unfold j51_1
        simp only [fz110_0, pop_some]
        rw [ldi p8 (j := 0) rfl, pop_some, cb_lss, pop_some]
        have put : pop (cbuild Try.prog 110 [(0, .int .i64 c), (1, .int .i64 i)]) M2 (fun t89 m => sop (cstore Try.prog 110 (pt t8) t89 m) (fun _ m => j51_0 (RK K Kp) X (.int .i64 i) (pt S) (pt Q) (pt F) (pt t4) (pt t5) (pt t8) d.v (.int .i64 d.n) [] m)) := by
          rw [hcb110, pop_some]
          refine store_own p8 (by simp [toL, sz110]) (by simp [toL]) rfl fun M3 hn3 hx3 p8 => ?_
          simp only [toL] at p8
          exact nx (k2.wr2 (b := t8) (by omega) hn3 hx3) (h2.wr hH (by omega) hn3 hx3) hG2 hEE hAA (p4.sub hn3 (hx3 _ (by omega))) (p5.sub hn3 (hx3 _ (by omega))) p8 (.inr ⟨⟨hc.1, by have := hc.2; show c ≤ 200000 * (((d.r 0).n : Int) - 1 - x.day); omega⟩, i, rfl, hin, hfin⟩)
        by_cases hbc : bc < 0
        · rw [decide_eq_true hbc]
          simp only [gb_bool, show (true == false) = false from rfl, gop_false, cpick_bool, if_true, pop_some, cnd_true]
          rw [ldi p13 (j := 0) rfl, pop_some]
          exact put
        · rw [decide_eq_false hbc]
          simp only [gb_bool, beq_self_eq_true, gop_true]
          rw [ldi p13 (j := 0) rfl, pop_some, ldi p8 (j := 0) rfl, pop_some, cb_lss, pop_some, cpick_bool, pop_some]
          simp only [Bool.false_eq_true, if_false]
          cases decide (c < bc) with
          | true => rw [cnd_true, ldi p13 (j := 0) rfl, pop_some]; exact put
          | false => rw [cnd_false]; exact nx k2 h2 hG2 hEE hAA p4 p5 p8 hPl2
      rw [ldi p4 (j := 1) rfl, pop_some, cb_geq, pop_some]
      have no : j51_1 (RK K Kp) X (pt t8) (pt t13) (.int .i64 i) (.int .i64 i) (pt S) (pt Q) (pt F) (pt t4) (pt t5) d.v (.int .i64 d.n) [] mH := cmp kMH hHH p4 p5 p8 o13 (by omega)
      cases hst : decide (0 ≤ x.store) with
      | false =>
        simp only [gb_bool, show (false == true) = false from rfl, gop_false, cpick_bool, pop_some, Bool.false_eq_true, if_false, cnd_false]
        exact no
      | true =>
        simp only [gb_bool, beq_self_eq_true, gop_true]
        rw [ldi p4 (j := 1) rfl, pop_some, cb_neq, pop_some, cpick_bool, pop_some]
        simp only [if_true]
        cases (x.store != (i : Int)) with
        | false => rw [cnd_false]; exact no
        | true =>
          rw [cnd_true, ldi o13 (j := 0) rfl, pop_some, ldi hHH.s (j := 4) rfl, pop_some, cb_add, pop_some, wrap_id (by omega) (by omega)]
          refine o13.store (o := 0) sz3 (by simp [toL]) rfl fun mI hnI hxI o13 => ?_
          replace o13 : Own mI t13 [.int .i64 (p.1 + (d.r i).rent + d.move), .int .i64 p.2] 0 := o13
          exact cmp (kMH.wr2 (b := t13) (by omega) hnI hxI) (hHH.wr hH (by omega) hnI hxI) (p4.sub hnI (hxI _ (by omega))) (p5.sub hnI (hxI _ (by omega))) (p8.sub hnI (hxI _ (by omega))) o13 (by omega)
end Go.Proofs.Ytjkfleibnojjaaa.T
end

section
open Go Go.Proofs Go.Proofs.Ytjkfleibnojjaaa
set_option maxRecDepth 100000
namespace Go.Proofs.Ytjkfleibnojjaaa.T
theorem HS.cong {d : SeD} {m0 M M' : CM} {S Q F MP : Nat} {es : List Ent3} (h : HS d m0 S Q F MP es M) (hn : M.next ≤ M'.next) (hx : ∀ y, (y < m0.next ∨ y = S ∨ y = Q ∨ y = F ∨ y = MP) → M'.get y = M.get y) : HS d m0 S Q F MP es M' := by
  have e1 := h.s.1; have e2 := h.q.1; have e3 := h.f.1; have e4 := h.ml; have e5 := h.le.1
  exact ⟨⟨by omega, fun y hy => by rw [hx y (.inl hy)]; exact h.le.2 y hy⟩, ⟨by omega, by rw [hx _ (.inr (.inl rfl))]; exact h.s.2⟩, ⟨by omega, by rw [hx _ (.inr (.inr (.inl rfl)))]; exact h.q.2⟩, ⟨by omega, by rw [hx _ (.inr (.inr (.inr (.inl rfl))))]; exact h.f.2⟩,
    by rw [hx _ (.inr (.inr (.inr (.inr rfl))))]; exact h.mp, by omega, h.kl, h.g, h.n⟩
theorem cf110_0 (a b : Int) : cfield Try.prog 110 (.agg ⟨[.int .i64 a, .int .i64 b]⟩) 0 = some (.int .i64 a) := by kernel_rfl
theorem cf110_1 (a b : Int) : cfield Try.prog 110 (.agg ⟨[.int .i64 a, .int .i64 b]⟩) 1 = some (.int .i64 b) := by kernel_rfl
set_option maxHeartbeats 8000000 in
theorem Cheapest26 {d : SeD} {m : CM} (hd : d.In m) {K : Value → CM → Prop} {Kp : List PanicEntry → CM → Prop}
    (hK : ∀ m' v bn (ws : List Int) (a e : Int), m.le m' → HV m' v bn (iv ws) → (∀ y, bn = some y → m.next ≤ y) → ws.length ≤ 8 → K (.tuple ⟨[v, .int .i64 a, .int .i64 e]⟩) m') : callw Try.prog 26 [.agg ⟨d.cells⟩] m K Kp := by
  apply c26
  unfold s26
  refine box_of fun t1 m1 hle1 hb1 o1 => ?_
  replace o1 : Own m1 t1 d.cells 0 := o1
  have a1 := hle1.1
  have fin : ∀ {M : CM} {v : Value} {bn : Option Nat} {ws : List Int} {a e : Int}, m.le M → HV M v bn (iv ws) → (∀ y, bn = some y → m.next ≤ y) → ws.length ≤ 8 → leaveV Try.prog [.v v, .v (.int .i64 a), .v (.int .i64 e)] [] .ret M (RK K Kp) := by
    intro M v bn ws a e hM hv hb hl
    refine leave_rvs (.v (.v (.v .nil))) ?_
    show RK K Kp (.ret (.tuple ⟨[_, _, _]⟩)) M
    rw [RK_ret]
    exact hK _ _ _ _ _ _ hM hv hb hl
  rw [lda o1 ag26 sz26, pop_some]
  refine check7 (hd.le hle1) fun p a e m2 hle2 h2 => ?_
  have a2 := hle2.1
  have hle := hle1.trans hle2
  simp only [cext, List.getElem?_cons_zero, List.getElem?_cons_succ, pop_some]
  rw [cb_neq, pop_some]
  cases hb : (e != 0) with
  | true => rw [cnd_true]; exact fin (ws := []) hle .nil (by simp) (by simp)
  | false =>
  have hok := h2 (by simpa using hb)
  have hn3 := hok.n3
  have hr0 := (hok.r 0 (by omega)).d
  rw [cnd_false, lda (o1.le hle2) ag26 sz26, pop_some, hcb76 hd, pop_some]
  refine alw_of ze76 fun S m3 hle3 hbS oS => store_own oS (by simp [toL, sz76]) (by simp [toL]) (SeD.one hd) fun m4 hn4 hx4 oS => ?_
  replace oS : Own m4 S d.cells 0 := oS
  have a3 := hle3.1
  replace hle := hle.trans (le_of_put hle3 hbS hn4 hx4)
  have a4 := hle.1
  refine ⟨?_⟩
  have hle5 : m4.le (m4.alloc (.map [])) := CM.le_alloc ..
  have hMg : (m4.alloc (.map [])).get m4.next = some (.map (([] : List Ent3).map ent)) := by rw [CM.get_alloc, if_pos rfl]; rfl
  have hMl : m4.next < (m4.alloc (.map [])).next := by simp
  generalize hMP : m4.next = MP at *
  generalize m4.alloc (.map []) = m5 at *
  have cS := oS.1
  replace oS := oS.le hle5
  replace hle := hle.trans hle5
  refine alw_of ze107 fun Q m6 hle6 hbQ oQ => store_own oQ (by simp [toL, sz107]) (by simp [toL]) rfl fun m7 hn7 hx7 oQ => ?_
  simp only [toL] at oQ
  have a6 := hle6.1
  have cQ := oQ.1
  have h7 := le_of_put hle6 hbQ hn7 hx7
  refine alw_of ze108 fun F m8 hle8 hbF oF => store_own oF (by simp [toL, sz108]) (by simp [toL]) rfl fun m9 hn9 hx9 oF => ?_
  replace oF : Own m9 F [.func (.func 51) ⟨[]⟩ ⟨[pt S, pt Q, pt F]⟩] 0 := oF
  have a8 := hle8.1
  have cF := oF.1
  have h9 := le_of_put hle8 hbF hn9 hx9
  have hH : HS d m S Q F MP [] m9 := ⟨(hle.trans h7).trans h9, (oS.le h7).le h9, oQ.le h9, oF, by rw [h9.2 _ (by omega), h7.2 _ (by omega)]; exact hMg, by omega, by simp, by omega, by omega, by omega, by omega⟩
  clear oS oQ oF hMg
  refine begin49 (by omega) fun mA hleA => alw_of ze103' fun X mB hleB hbX oX => store_own oX (by simpa [toL, zer_len] using sz103) (by simp [toL]) (iv_one _) fun mC hnC hxC oX => ?_
  have aA := hleA.1; have aB := hleB.1
  have cX := oX.1
  have hC := hleA.trans (le_of_put hleB hbX hnC hxC)
  replace oX : Own mC X (StD.mk (0 - 1) (-1) 0 zer).cells 0 := oX
  have hx0 : (StD.mk (0 - 1) (-1) 0 zer).Ok := ⟨by show -1 ≤ (0 : Int) - 1 ∧ (0 : Int) - 1 ≤ 8; omega, by show (0 : Int) ≤ 0 ∧ 0 ≤ (0 : Int) - 1 + 1; omega, zer_len, fun u hu => by have := zer_bd u hu; show 0 ≤ u ∧ u ≤ (0 : Int) - 1 + 1; omega⟩
  have hxd0 : (StD.mk (0 - 1) (-1) 0 zer).day = -1 := rfl
  generalize StD.mk (0 - 1) (-1) 0 zer = x0 at *
  have hHC := hH.step hC
  rw [hHC.f.cel.z ag108 (j := 0) rfl, pop_some, lda oX ag103 (sz103' hx0.js), pop_some]
  show callw Try.prog 51 [.agg ⟨x0.cells⟩, pt S, pt Q, pt F] mC _ _
  refine rest51 hd hok (d.r 0).n x0 [] mC hx0 (by omega) hHC (fun y p h => by simp [lkP] at h) _ _ fun mD es p kD hHD hGD _ _ hpb hpl => ?_
  rw [cf110_0, pop_some, cb_lss, pop_some]
  by_cases hp0 : p.1 < 0
  · rw [decide_eq_true hp0, cnd_true]; exact fin (ws := []) hHD.le .nil (by simp) (by simp)
  rw [decide_eq_false hp0, cnd_false]
  have oXD := Own.keepX oX kD (by omega)
  have hneX : X ≠ S ∧ X ≠ Q ∧ X ≠ F ∧ X ≠ MP ∧ m.next ≤ X := by omega
  have hfin0 : Fin1 d es x0 := .inr ⟨p, hpl (by omega), by omega⟩
  have hpl0 := hpl (by omega)
  clear hpl hpb kD oX hHC hC hH h9 h7 hx9 hx7 hxC hx4
  refine loopA_of (fun l0 ds m' => ds = [] ∧ ∃ (es : List Ent3) (x : StD) (v : Value) (bn : Option Nat) (ws : List Int), HS d m S Q F MP es m' ∧ Good d es ∧ x.Ok ∧ x.day + 1 ≤ (d.r 0).n ∧ (ws.length : Int) = x.day + 1 ∧ Fin1 d es x ∧ Own m' X x.cells 0 ∧ HV m' v bn (iv ws) ∧ (∀ y, bn = some y → m.next ≤ y ∧ y ≠ S ∧ y ≠ Q ∧ y ≠ F ∧ y ≠ MP ∧ y ≠ X) ∧
      l0 = [v, .int .i64 p.1, .int .i64 e, pt S, pt F, pt X])
    (fun l0 m' => match m'.get X with | some (.cells (.int _ i :: _) _ _) => (8 - i).toNat | _ => 0) ⟨rfl, es, x0, _, none, [], hHD, hGD, hx0, by omega, by simp; omega, hfin0, oXD, .nil, by simp, rfl⟩ ?_
  clear hHD hGD hfin0 oXD hpl0
  rintro X1 ρ ds M ⟨rfl, es, x, v, bn, ws, hH, hG, hx, hxD, hwl, hF, oX, hv, hnb, hll⟩ hX
  simp only [List.map_cons, List.map_nil, List.cons.injEq, and_true] at hll
  obtain ⟨q2, q3, q4, q5, q7, q8⟩ := hll
  simp only [q2, q3, q4, q5, q7, q8, fz103_0, pop_some]
  rw [ldi oX (j := 0) rfl]
  simp only [pop_some]
  rw [lda hH.s ag76 sz76]
  simp only [pop_some]
  refine days48 (hd.le hH.le) hn3.1 fun m10 hle10 => ⟨hle10, ?_⟩
  rw [cb_sub, pop_some, wrap_id (by omega) (by omega), cb_lss, pop_some]
  generalize hMV : memJ M _ (fun _ => true) m10.next = MV
  have hV : m10.le MV := hMV ▸ view1 hle10 (Nat.le_refl _) rfl
  clear hMV
  have hMV := hle10.trans hV
  have aMV := hMV.1
  have hHV := hH.step hMV
  have oXV := oX.le hMV
  have hvV := hv.of_get hMV.1 fun y hy => hMV.2 _ (hv.lt hy)
  have hxd := hx.day
  by_cases hc : x.day < ((d.r 0).n : Int) - 1
  rotate_left
  · rw [decide_eq_false hc, cnd_false]
    exact fin hHV.le hvV (fun y hy => (hnb y hy).1) (by omega)
  rw [decide_eq_true hc, cnd_true, hHV.f.cel.z ag108 (j := 0) rfl, pop_some, lda oXV ag103 (sz103' hx.js), pop_some]
  show callw Try.prog 51 [.agg ⟨x.cells⟩, pt S, pt Q, pt F] MV _ _
  refine rest51 hd hok ((d.r 0).n - (x.day + 1)).toNat x es MV hx (by omega) hHV hG _ _ fun mE es2 p2 kE hHE hG2 hE2 _ _ hpl2 => ?_
  have hp2 : 0 ≤ p2.1 := by
    have h1 := hpl2 (by omega)
    rcases hF with h | ⟨q, hq, hq0⟩
    · omega
    · have := hE2 _ _ hq; rw [h1] at this; cases this; exact hq0
  obtain ⟨kk, hkk, hkn, hF2⟩ : ∃ k : Nat, p2.2 = k ∧ k < d.n ∧ Fin1 d es2 (d.afterP x k) := by
    rcases hG2 x p2 (hpl2 (by omega)) with h | ⟨_, h⟩
    · omega
    · exact h
  have hX0 := hneX
  have hvE : HV mE v bn (iv ws) := hvV.of_get kE.1 fun y hy => kE.2 _ (hvV.lt hy) (hnb y hy).2.2.2.2.1
  have oXE := Own.keepX oXV kE hneX.2.2.2.1
  rw [cf110_1, pop_some, hkk, lda hHE.s ag76 sz76, pop_some, lda oXE ag103 (sz103' hx.js), pop_some]
  refine after50 (hd.le hHE.le) hok hx (by omega) hkn fun mF hleF => ?_
  simp only [cext, List.getElem?_cons_zero, List.getElem?_cons_succ, pop_some]
  have hz := afterP_ok (d := d) (k := kk) hx (by omega)
  have hHF := hHE.step hleF
  have hvF : HV mF v bn (iv ws) := hvE.of_get hleF.1 fun y hy => hleF.2 _ (hvE.lt hy)
  refine store_own (oXE.le hleF) (by simpa [toL] using sz103' hz.js) (by simp [toL, hz.js, hx.js]) (StD.one _) fun mG hnG hxG oXG => ?_
  replace oXG : Own mG X (d.afterP x kk).cells 0 := oXG
  have hHG : HS d m S Q F MP es2 mG := hHF.cong (by omega) fun y hy => hxG _ (by omega)
  have hvG : HV mG v bn (iv ws) := hvF.of_get (by omega) fun y hy => hxG _ (hnb y hy).2.2.2.2.2
  refine app1 Try.underlying27 sz3 ze3 ap27 by3 (by decide) (by decide) hvG (x := .int .i64 kk) rfl (by simp only [iv, List.length_map]; unfold lim; omega) fun b' mH hb' hnH hgH hoH => ?_
  have hiv : iv ws ++ [.int .i64 kk] = iv (ws ++ [(kk : Int)]) := by simp [iv]
  rw [hiv] at hoH ⊢
  have e1 := hHG.s.1; have e2 := hHG.q.1; have e3 := hHG.f.1; have e4 := hHG.ml; have e5 := hHG.le.1; have e6 := oXG.1
  have hHH : HS d m S Q F MP es2 mH := hHG.cong hnH fun y hy => hgH y (by omega) (fun e => by have := hnb y e; omega)
  refine hX _ _ _ ⟨rfl, es2, d.afterP x kk, _, some b', ws ++ [(kk : Int)], hHH, hG2, hz, by show x.day + 1 + 1 ≤ _; omega, by show ((ws ++ [(kk : Int)]).length : Int) = x.day + 1 + 1; simp; omega, hF2, ⟨by omega, by rw [hgH _ e6 (fun e => (hnb _ e).2.2.2.2.2 rfl)]; exact oXG.2⟩, .blk hoH, fun y hy => by cases hy; omega, rfl⟩ ?_
  rw [show mH.get X = mG.get X from hgH _ e6 (fun e => (hnb _ e).2.2.2.2.2 rfl), oXG.2, oX.2]
  show (8 - (x.day + 1)).toNat < (8 - x.day).toNat
  omega
end Go.Proofs.Ytjkfleibnojjaaa.T
end

section
open Go Go.Proofs Go.Proofs.Ytjkfleibnojjaaa
set_option maxRecDepth 100000
namespace Go.Proofs.Ytjkfleibnojjaaa.T
abbrev tysT : List CT := [.i, .i, .i, .i, .i, .sl [.s, .i, .sl [.i, .i]], .sl [.i], .sl [.i], .i, .i]
structure ArgD where
  d : SeD
  w : WayD
  v : Value
  n : Nat
  x : Nat → Int
  a : Int
  b : Int
abbrev ArgD.cells (x : ArgD) : List Value := [.int .i64 x.d.bend, .int .i64 x.d.days, .int .i64 x.d.jump, .int .i64 x.d.times, .int .i64 x.d.move, x.d.v, x.w.v, x.v, .int .i64 x.a, .int .i64 x.b]
structure ArgD.In (x : ArgD) (m : CM) : Prop where
  d : x.d.In m
  w : x.w.In m
  v : Sl 1 m x.v x.n (fun i => [.int .i64 (x.x i)])
  n0 : x.n < 4611686018427387904
theorem st3 {F : Keep} {k : Nat} {l : List Value} (h : WTL F [.s, .i, .sl [.i, .i]] k l) (hk : k ≤ lim) : ∃ w : StR, l = w.row ∧ ∀ m, FW F m → w.In m := by
  have hl := lim62
  obtain ⟨s, k0, _, rfl, h, b0⟩ := wtlS h
  obtain ⟨p, k1, _, rfl, h, b1⟩ := wtlI h
  obtain ⟨v, n, x, y, k6, _, rfl, hs, hn, h, b6⟩ := wtlLii h
  rw [wtl0 h]
  exact ⟨{ s := s, rent := p, v := v, n := n, lo := x, hi := y }, rfl, fun m hm => ⟨hs m hm, by show n < _; omega⟩⟩
theorem argOf {F : Keep} {k : Nat} {l : List Value} (h : WTL F tysT k l) (hk : k ≤ lim) : ∃ x : ArgD, l = x.cells ∧ ∀ m, FW F m → x.In m := by
  have hl := lim62
  obtain ⟨i1, k1, _, rfl, h, b1⟩ := wtlI h
  obtain ⟨i2, k2, _, rfl, h, b2⟩ := wtlI h
  obtain ⟨i3, k3, _, rfl, h, b3⟩ := wtlI h
  obtain ⟨i4, k4, _, rfl, h, b4⟩ := wtlI h
  obtain ⟨i5, k5, _, rfl, h, b5⟩ := wtlI h
  obtain ⟨vt, nt, rt, kt, k6, _, rfl, st, bt, ht, h, b6⟩ := wtlL h
  obtain ⟨vw, nw, xw, k7, _, rfl, sw, bw, h, b7⟩ := wtlLi h
  obtain ⟨vr, nr, xr, k8, _, rfl, sr, br, h, b8⟩ := wtlLi h
  obtain ⟨i6, _, _, rfl, h, _⟩ := wtlI h
  obtain ⟨i7, _, _, rfl, h, _⟩ := wtlI h
  rw [wtl0 h]
  obtain ⟨w, hw⟩ := chooseF (r := fun (i : Nat) (u : StR) => i < nt → rt i = u.row ∧ ∀ m, FW F m → u.In m) fun i => by
    by_cases hi : i < nt
    · obtain ⟨u, e, hu⟩ := st3 (ht i hi).1 (by have := (ht i hi).2; omega)
      exact ⟨u, fun _ => ⟨e, hu⟩⟩
    · exact ⟨{ s := ⟨#[]⟩, rent := 0, v := undef, n := 0, lo := fun _ => 0, hi := fun _ => 0 }, fun h => absurd h hi⟩
  refine ⟨{ d := ⟨i1, i2, i3, i4, i5, vt, nt, w⟩, w := ⟨vw, nw, xw⟩, v := vr, n := nr, x := xr, a := i6, b := i7 }, rfl, fun m hm => ⟨⟨(st m hm).congr fun i hi => (hw i hi).1, fun i hi => (hw i hi).2 m hm, by show nt < _; omega⟩, ⟨sw m hm, by show nw < _; omega⟩, sr m hm, by show nr < _; omega⟩⟩
theorem wipe10 (M : CM) (K : Value → CM → Prop) (Kp : List PanicEntry → CM → Prop) (h : K (.tuple ⟨[]⟩) M) : callw Try.prog 10 [] M K Kp := c10 (by unfold s10; rw [leave0, RK_ret]; exact h)
theorem wipe20 {t : Nat} {v : Value} {bn : Option Nat} {cs : List Value} {m : CM} (ho : Own m t [v] 0) (hv : HV m v bn cs) (hlen : cs.length ≤ lim) {K : Value → CM → Prop} {Kp : List PanicEntry → CM → Prop} (hK : ∀ m', m'.next = m.next → (∀ x, bn ≠ some x → m'.get x = m.get x) → K (.tuple ⟨[]⟩) m') : callw Try.prog 20 [.pointer (some ⟨t, 0, none⟩)] m K Kp := by
  apply c20
  exact wipes_ok Try.underlying27 sz3 ag27 (fun h => c46 h) (fun h => c47 h) ho hv hlen (K := RK K Kp) fun m' h1 h2 => by rw [RK_ret]; exact hK m' h1 h2
theorem resOf {m0 m1 : CM} {v : Value} {bn : Option Nat} {ws : List Int} (hv : HV m1 v bn (iv ws)) (hb : ∀ y, bn = some y → m0.next ≤ y) (hl : ws.length ≤ 8) : ResV 1 m0 m1 v := by
  have hlen : (iv ws).length = ws.length := by simp [iv]
  have hi : ∀ u ∈ iv ws, ∃ k, u = .int .i64 k := fun u hu => by simp only [iv, List.mem_map] at hu; obtain ⟨k, _, rfl⟩ := hu; exact ⟨k, rfl⟩
  generalize iv ws = cs at *
  cases hv with
  | nil => exact ResV.nil
  | blk ho => exact ⟨_, cs, cs.length, .blk ho (by omega), hb, by omega, hi⟩
section
variable {x : ArgD} {t : Nat} {m : CM}
theorem la0 (h : Own m t x.cells 0) : cload Try.prog 26 (.pointer (some ⟨t, 0, none⟩)) m = some (.agg ⟨x.d.cells⟩) := h.cel.za ag26 sz26 (j := 0) (by simp)
theorem la1 (h : Own m t x.cells 0) : cload Try.prog 27 (.pointer (some ⟨t, 6, none⟩)) m = some x.w.v := h.cel.z ag27 (j := 6) rfl
theorem la2 (h : Own m t x.cells 0) : cload Try.prog 27 (.pointer (some ⟨t, 7, none⟩)) m = some x.v := h.cel.z ag27 (j := 7) rfl
theorem la3 (h : Own m t x.cells 0) : cload Try.prog 3 (.pointer (some ⟨t, 8, none⟩)) m = some (.int .i64 x.a) := ldi h rfl
theorem la4 (h : Own m t x.cells 0) : cload Try.prog 3 (.pointer (some ⟨t, 9, none⟩)) m = some (.int .i64 x.b) := ldi h rfl
end
section
variable {k : Nat} {l : List Value}
theorem clo6 (hk : k ≤ lim) : CloOk Try.prog tysT k l 6 := by
  intro F m h t hw hf hFh ho hth hoh
  obtain ⟨x, rfl, hin⟩ := argOf hw hk
  have hd := hin m hf
  have hl := lm
  apply c6
  unfold s6
  simp only [fz29_0, pop_some, la0 ho]
  refine check7 hd.d fun p a e m1 hle1 _ => ?_
  simp only [cext, List.getElem?_cons_zero, List.getElem?_cons_succ, pop_some]
  refine pI put8 (hp_but (hoh.le hle1)) (by omega) fun _ m2 hp => pI put8 hp (by omega) fun _ m3 hp => pI put9 hp (by omega) fun _ m4 hp => ?_
  rw [leave1, RK_ret]
  exact clo_nothing hoh hle1 hp (by omega) wipe10
theorem clo11 (hk : k ≤ lim) : CloOk Try.prog tysT k l 11 := by
  intro F m h t hw hf hFh ho hth hoh
  obtain ⟨x, rfl, hin⟩ := argOf hw hk
  have hd := hin m hf
  have hl := lm
  apply c11
  unfold s11
  simp only [fz29_0, fz29_1, fz29_2, pop_some, la0 ho, la1 ho, la2 ho]
  refine Fate12 hd.d hd.w hd.v hd.n0 fun m1 a b e hle1 => ?_
  simp only [cext, List.getElem?_cons_zero, List.getElem?_cons_succ, pop_some]
  refine var_agg ze43 sz43 ag43 rfl rfl rfl fun b4 m2 hle2 hb4 ho4 => ?_
  have hle := hle1.trans hle2
  rw [lda ho4 ag43 sz43, pop_some]
  refine pII put13 (hp_but (hoh.le hle)) (by omega) fun _ m6 hp => pI put9 hp (by omega) fun _ m4 hp => ?_
  rw [leave1, RK_ret]
  exact clo_nothing hoh hle hp (by omega) wipe10
theorem clo14 (hk : k ≤ lim) : CloOk Try.prog tysT k l 14 := by
  intro F m h t hw hf hFh ho hth hoh
  obtain ⟨x, rfl, hin⟩ := argOf hw hk
  have hd := hin m hf
  have hl := lm
  apply c14
  unfold s14
  simp only [fz29_0, fz29_1, pop_some, la0 ho, la1 ho]
  refine Risks15 hd.d hd.w fun m1 a b e hle1 => ?_
  simp only [cext, List.getElem?_cons_zero, List.getElem?_cons_succ, pop_some]
  refine pI put8 (hp_but (hoh.le hle1)) (by omega) fun _ m2 hp => pI put8 hp (by omega) fun _ m3 hp => pI put9 hp (by omega) fun _ m4 hp => ?_
  rw [leave1, RK_ret]
  exact clo_nothing hoh hle1 hp (by omega) wipe10
theorem clo16 (hk : k ≤ lim) : CloOk Try.prog tysT k l 16 := by
  intro F m h t hw hf hFh ho hth hoh
  obtain ⟨x, rfl, hin⟩ := argOf hw hk
  have hd := hin m hf
  have hl := lm
  apply c16
  unfold s16
  simp only [fz29_0, fz29_1, pop_some, la0 ho, la1 ho]
  refine Show17 hd.d hd.w fun m1 v bn ws e hle1 hv hb hws => ?_
  simp only [cext, List.getElem?_cons_zero, List.getElem?_cons_succ, pop_some]
  refine clo_ints (g := 19) ze27 sz27 ag27 put18 hoh hle1 (resOf hv hb hws.2) (fun ho hv hl K Kp hK => wipe20 ho hv hl hK) (fun t M K Kp hg => ?_) fun p F B m4 hB hp hf => pI put9 hp (by omega) fun _ m6 hp => ?_
  · apply c19
    unfold s19
    exact hg fun m' h => by rw [leave0, RK_ret]; exact h
  · rw [leave1, RK_ret]
    exact hf _ _ hp (by omega)
theorem clo21 (hk : k ≤ lim) : CloOk Try.prog tysT k l 21 := by
  intro F m h t hw hf hFh ho hth hoh
  obtain ⟨x, rfl, hin⟩ := argOf hw hk
  have hd := hin m hf
  have hl := lm
  apply c21
  unfold s21
  simp only [fz29_0, fz29_1, pop_some, la0 ho, la1 ho]
  refine Cost22 hd.d hd.w fun m1 a e hle1 => ?_
  simp only [cext, List.getElem?_cons_zero, List.getElem?_cons_succ, pop_some]
  refine pI put8 (hp_but (hoh.le hle1)) (by omega) fun _ m2 hp => pI put9 hp (by omega) fun _ m4 hp => ?_
  rw [leave1, RK_ret]
  exact clo_nothing hoh hle1 hp (by omega) wipe10
theorem clo23 (hk : k ≤ lim) : CloOk Try.prog tysT k l 23 := by
  intro F m h t hw hf hFh ho hth hoh
  obtain ⟨x, rfl, hin⟩ := argOf hw hk
  have hd := hin m hf
  have hl := lm
  apply c23
  unfold s23
  simp only [fz29_0, fz29_3, fz29_4, pop_some, la0 ho, la3 ho, la4 ho]
  refine Keeps24 hd.d fun m1 a e hle1 => ?_
  simp only [cext, List.getElem?_cons_zero, List.getElem?_cons_succ, pop_some]
  refine pI put8 (hp_but (hoh.le hle1)) (by omega) fun _ m2 hp => pI put9 hp (by omega) fun _ m4 hp => ?_
  rw [leave1, RK_ret]
  exact clo_nothing hoh hle1 hp (by omega) wipe10
theorem clo25 (hk : k ≤ lim) : CloOk Try.prog tysT k l 25 := by
  intro F m h t hw hf hFh ho hth hoh
  obtain ⟨x, rfl, hin⟩ := argOf hw hk
  have hd := hin m hf
  have hl := lm
  apply c25
  unfold s25
  simp only [fz29_0, pop_some, la0 ho]
  refine Cheapest26 hd.d fun m1 v bn ws a e hle1 hv hb hws => ?_
  simp only [cext, List.getElem?_cons_zero, List.getElem?_cons_succ, pop_some]
  refine clo_ints (g := 27) ze27 sz27 ag27 put18 hoh hle1 (resOf hv hb hws) (fun ho hv hl K Kp hK => wipe20 ho hv hl hK) (fun t M K Kp hg => ?_) fun p F B m4 hB hp hf => pI put8 hp (by omega) fun _ m5 hp => pI put9 hp (by omega) fun _ m6 hp => ?_
  · apply c27
    unfold s27
    exact hg fun m' h => by rw [leave0, RK_ret]; exact h
  · rw [leave1, RK_ret]
    exact hf _ _ hp (by omega)
end
end Go.Proofs.Ytjkfleibnojjaaa.T
end

section
namespace Go.Proofs.Ytjkfleibnojjaaa
open Go
/-- A call that leaves all as it was: its new blocks are forgotten, the next number may be greater. -/
theorem CEvCall.raise {P : Program} {f : FuncId} {args : List Value} {m m' : CM} {e : CE} (h : CEvCall P f args m e m') (hle : m.le m') {n : Nat} (hn : m'.next ≤ n) : CEvCall P f args m e (m.aged n) := by
  refine ⟨h.1, fun ι w args' hr ht => (h.2 ι w args' hr ht).mono ?_⟩
  have hlow : ∀ b x, m.get b = some x → b < m.next := fun b x hx => by
    obtain ⟨p, hp, _⟩ := hr.blk b x hx
    refine Classical.byContradiction fun hh => ?_
    rw [hr.fresh b (by omega)] at hp; cases hp
  have hg : ∀ b x, (m.aged n).get b = some x → m'.get b = some x := fun b x hx => by
    rw [get_aged] at hx
    rw [hle.2 b (hlow b x hx)]; exact hx
  rintro e' w' ⟨ι', hle', hr', he, hf⟩
  refine ⟨ι', hle', ⟨fun b hb => hr'.fresh b (Nat.le_trans hn hb), hr'.low, fun b x hx => hr'.blk b x (hg b x hx), fun b b' x x' p p' hx hx' => hr'.apart b b' x x' p p' (hg _ _ hx) (hg _ _ hx')⟩, he,
    ⟨hf.os, hf.tape, hf.output, hf.size, hf.keep, fun b x p hx => hf.born b x p (hg _ _ hx), fun b x x' hx hx' => hf.stay b x x' hx (hg _ _ hx'), Nat.le_trans hle.1 hn, fun b hb hx => by rw [get_aged]; exact hx, hf.inj⟩⟩
theorem callw_raise {P : Program} {f : FuncId} {args : List Value} {m : CM} {v0 : Value} {n : Nat} {K : Value → CM → Prop} {Kp : List PanicEntry → CM → Prop}
    (h : callw P f args m (fun v m' => m.le m' ∧ m'.next ≤ n ∧ v = v0) (fun _ _ => False)) (hK : K v0 (m.aged n)) : callw P f args m K Kp := by
  obtain ⟨e, m', hc, hk⟩ := h
  cases e with
  | ret v => obtain ⟨hle, hn, rfl⟩ := hk; exact ⟨.ret v, _, hc.raise hle hn, hK⟩
  | pan c => exact hk.elim
end Go.Proofs.Ytjkfleibnojjaaa
end
