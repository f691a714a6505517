/- Part 11 of 20 of the proof that the law stearintop.TopAnewWick returns true and leaves its argument as it read before, for every input that the bounded statement admits (what it reads is of bulk at most 1048576). -/
import Derived.Test.YtlgkfjgpjggmcaaP05
import Derived.Test.YtlgkfjgpjggmcaaP07
import Derived.Test.YtlgkfjgpjggmcaaP08
import Derived.Test.YtlgkfjgpjggmcaaP09
import Derived.Test.YtlgkfjgpjggmcaaP10
section
open Go Go.Proofs Go.Proofs.Ytlgkfjgpjggmcaa
set_option maxRecDepth 100000
namespace Go.Proofs.Ytlgkfjgpjggmcaa.W
theorem heapT : HeapT Try.prog 3 9 34 35 37 := ⟨Try.underlying34, Try.underlying35, sz3, sz9, ze3, ze9, by3, by9, ap34, ap35, sz34, sz35, ag34, ag35, ag3, ag9, Try.underlying9, fa37_0, fa37_1⟩
theorem put8 : PutOk Try.prog 8 [.i] false := putInt_ok heapT fun h => c8 h
theorem put9 : PutOk Try.prog 9 [.i] false := putInt_ok heapT fun h => c9 h
theorem put13 : PutOk Try.prog 13 [.i, .i, .i] true := putS_ok (fs := [(48, 0, 3, 8), (48, 1, 3, 8), (48, 2, 3, 8)]) (.cons (t := [.i]) (a := false) fz48_0 ag3 sz3 (by decide) put8 (.cons (t := [.i]) (a := false) fz48_1 ag3 sz3 (by decide) put8 (.cons (t := [.i]) (a := false) fz48_2 ag3 sz3 (by decide) put8 (.nil)))) fun h => c13 h
theorem put18 : PutOk Try.prog 18 [.sl [.i]] false := by
  intro F h B m l k K Kp hp hw hB hK
  apply c18
  unfold s18
  refine puts_ok heapT Try.underlying34 sz3 ag3 (by decide) rfl put8 (fun h => c49 h) hp hw hB fun u m' hp' => ?_
  simp only [leave0, RK_ret]
  exact hK _ _ hp'
theorem put28 : PutOk Try.prog 28 [.i, .i] true := putS_ok (fs := [(25, 0, 3, 8), (25, 1, 3, 8)]) (.cons (t := [.i]) (a := false) fz25_0 ag3 sz3 (by decide) put8 (.cons (t := [.i]) (a := false) fz25_1 ag3 sz3 (by decide) put8 (.nil))) fun h => c28 h
theorem put86 : PutOk Try.prog 86 [.s] false := putText_ok heapT fun h => c86 h
theorem put81 : PutOk Try.prog 81 [.s, .i, .i, .i, .i, .i, .i, .i] true := putS_ok (fs := [(80, 0, 9, 86), (80, 1, 25, 28), (80, 2, 25, 28), (80, 3, 25, 28), (80, 4, 3, 8)]) (.cons (t := [.s]) (a := false) fz80_0 ag9 sz9 (by decide) put86 (.cons (t := [.i, .i]) (a := true) fz80_1 ag25 sz25 (by decide) put28 (.cons (t := [.i, .i]) (a := true) fz80_2 ag25 sz25 (by decide) put28 (.cons (t := [.i, .i]) (a := true) fz80_3 ag25 sz25 (by decide) put28 (.cons (t := [.i]) (a := false) fz80_4 ag3 sz3 (by decide) put8 (.nil)))))) fun h => c81 h
theorem put60 : PutOk Try.prog 60 [.sl [.s, .i, .i, .i, .i, .i, .i, .i]] false := by
  intro F h B m l k K Kp hp hw hB hK
  apply c60
  unfold s60
  refine puts_ok heapT Try.underlying23 sz80 ag80 (by decide) rfl put81 (fun h => c80 h) hp hw hB fun u m' hp' => ?_
  simp only [leave0, RK_ret]
  exact hK _ _ hp'
theorem put79 : PutOk Try.prog 79 [.s, .i, .i, .i] true := putS_ok (fs := [(76, 0, 9, 86), (76, 1, 3, 8), (76, 2, 25, 28)]) (.cons (t := [.s]) (a := false) fz76_0 ag9 sz9 (by decide) put86 (.cons (t := [.i]) (a := false) fz76_1 ag3 sz3 (by decide) put8 (.cons (t := [.i, .i]) (a := true) fz76_2 ag25 sz25 (by decide) put28 (.nil)))) fun h => c79 h
theorem put59 : PutOk Try.prog 59 [.sl [.s, .i, .i, .i]] false := by
  intro F h B m l k K Kp hp hw hB hK
  apply c59
  unfold s59
  refine puts_ok heapT Try.underlying22 sz76 ag76 (by decide) rfl put79 (fun h => c78 h) hp hw hB fun u m' hp' => ?_
  simp only [leave0, RK_ret]
  exact hK _ _ hp'
theorem put33 : PutOk Try.prog 33 [.sl [.s, .i, .i, .i], .sl [.s, .i, .i, .i, .i, .i, .i, .i], .i, .i, .i, .i] true := putS_ok (fs := [(27, 0, 22, 59), (27, 1, 23, 60), (27, 2, 25, 28), (27, 3, 25, 28)]) (.cons (t := [.sl [.s, .i, .i, .i]]) (a := false) fz27_0 ag22 sz22 (by decide) put59 (.cons (t := [.sl [.s, .i, .i, .i, .i, .i, .i, .i]]) (a := false) fz27_1 ag23 sz23 (by decide) put60 (.cons (t := [.i, .i]) (a := true) fz27_2 ag25 sz25 (by decide) put28 (.cons (t := [.i, .i]) (a := true) fz27_3 ag25 sz25 (by decide) put28 (.nil))))) fun h => c33 h
theorem put34 : PutOk Try.prog 34 [.i, .i, .i, .i, .i] true := putS_ok (fs := [(29, 0, 3, 8), (29, 1, 3, 8), (29, 2, 3, 8), (29, 3, 25, 28)]) (.cons (t := [.i]) (a := false) fz29_0 ag3 sz3 (by decide) put8 (.cons (t := [.i]) (a := false) fz29_1 ag3 sz3 (by decide) put8 (.cons (t := [.i]) (a := false) fz29_2 ag3 sz3 (by decide) put8 (.cons (t := [.i, .i]) (a := true) fz29_3 ag25 sz25 (by decide) put28 (.nil))))) fun h => c34 h
theorem put35 : PutOk Try.prog 35 [.i, .i, .i, .i, .i, .i] true := putS_ok (fs := [(31, 0, 3, 8), (31, 1, 3, 8), (31, 2, 3, 8), (31, 3, 3, 8), (31, 4, 3, 8), (31, 5, 3, 8)]) (.cons (t := [.i]) (a := false) fz31_0 ag3 sz3 (by decide) put8 (.cons (t := [.i]) (a := false) fz31_1 ag3 sz3 (by decide) put8 (.cons (t := [.i]) (a := false) fz31_2 ag3 sz3 (by decide) put8 (.cons (t := [.i]) (a := false) fz31_3 ag3 sz3 (by decide) put8 (.cons (t := [.i]) (a := false) fz31_4 ag3 sz3 (by decide) put8 (.cons (t := [.i]) (a := false) fz31_5 ag3 sz3 (by decide) put8 (.nil))))))) fun h => c35 h
theorem all4 {F : Keep} {h B : Nat} {m : CM} {l : List Value} {k : Nat} {K : Value → CM → Prop} {Kp : List PanicEntry → CM → Prop} (hp : Hp F h B m) (hw : WTL F [.sl [.s, .i, .i, .i], .sl [.s, .i, .i, .i, .i, .i, .i, .i], .i, .i, .i, .i, .i, .i, .i, .i, .i, .i, .i, .i, .i, .i, .i, .i, .i] k l) (hB : B + k ≤ lim) (hK : ∀ u m', Hp F h (B + k) m' → K u m') :
    callw Try.prog 4 [.agg ⟨l⟩, .pointer (some ⟨h, 0, none⟩)] m K Kp :=
  all_ok (fs := [(33, 0, 27, 33), (33, 1, 29, 34), (33, 2, 31, 35), (33, 3, 3, 8), (33, 4, 3, 8)]) (.cons (t := [.sl [.s, .i, .i, .i], .sl [.s, .i, .i, .i, .i, .i, .i, .i], .i, .i, .i, .i]) (a := true) fz33_0 ag27 sz27 (by decide) put33 (.cons (t := [.i, .i, .i, .i, .i]) (a := true) fz33_1 ag29 sz29 (by decide) put34 (.cons (t := [.i, .i, .i, .i, .i, .i]) (a := true) fz33_2 ag31 sz31 (by decide) put35 (.cons (t := [.i]) (a := false) fz33_3 ag3 sz3 (by decide) put8 (.cons (t := [.i]) (a := false) fz33_4 ag3 sz3 (by decide) put8 (.nil)))))) (fun h => c4 h) hp hw hB hK
end Go.Proofs.Ytlgkfjgpjggmcaa.W
end

section
open Go Go.Proofs Go.Proofs.Ytlgkfjgpjggmcaa
set_option maxRecDepth 100000
namespace Go.Proofs.Ytlgkfjgpjggmcaa.W
theorem out38 : OutOk Try.prog 38 := out_ok Try.underlying34 sz3 ag3 (fun h => c38 h) (fun h => c62 h) (fun h => c61 h) (fun h => c82 h)
theorem name65 : NameOk Try.prog 65 := name_ok Try.underlying9 (fun h => c65 h)
theorem turned39 : TurnedOk Try.prog 39 := turned_ok Try.underlying110 sz25 ag25 ag3 fz25_0 fz25_1 (fun h => c39 h) (fun h => c64 h) (fun h => c63 h) (fun h => c83 h)
def WkRow (r : List Value) : Prop := ∃ s a b c, r = [.string s, .int .i64 a, .int .i64 b, .int .i64 c]
def WxRow (r : List Value) : Prop := ∃ s a b c d e f g, r = [.string s, .int .i64 a, .int .i64 b, .int .i64 c, .int .i64 d, .int .i64 e, .int .i64 f, .int .i64 g]
theorem nm41 : NmOk Try.prog true 41 WkRow := by
  rintro m r K Kp ⟨s, a, b, c, rfl⟩ hK
  apply c41
  unfold s41
  refine box_of fun p m1 hle hp ho => ?_
  rw [fz76_0, pop_some, ho.cel.z ag9 rfl, pop_some, leave1, RK_ret]
  exact hK _ _ hle
theorem nm43 : NmOk Try.prog true 43 WxRow := by
  rintro m r K Kp ⟨s, a, b, c, d, e, f, g, rfl⟩ hK
  apply c43
  unfold s43
  refine box_of fun p m1 hle hp ho => ?_
  rw [fz80_0, pop_some, ho.cel.z ag9 rfl, pop_some, leave1, RK_ret]
  exact hK _ _ hle
theorem named40 {m : CM} {v : Value} {n : Nat} {row : Nat → List Value} (hs : Sl 4 m v n row) (hn0 : 0 < n) (hn : n < 4611686018427387904) (hR : ∀ i, i < n → WkRow (row i)) {K : Value → CM → Prop} {Kp : List PanicEntry → CM → Prop} (hK : ∀ m' x, m.le m' → K (.int .i64 x) m') :
    callw Try.prog 40 [v, .func (.func 41) ⟨[]⟩ ⟨[]⟩] m K Kp :=
  named_ok nm41 name65 Try.underlying22 sz76 ag76 (by decide) ag78 sz9 ze9 ag9 (fun h => c40 h) (fun h => c67 h) (fun h => c66 h) (fun h => c84 h) hs hn0 hn hR hK
theorem named42 {m : CM} {v : Value} {n : Nat} {row : Nat → List Value} (hs : Sl 8 m v n row) (hn0 : 0 < n) (hn : n < 4611686018427387904) (hR : ∀ i, i < n → WxRow (row i)) {K : Value → CM → Prop} {Kp : List PanicEntry → CM → Prop} (hK : ∀ m' x, m.le m' → K (.int .i64 x) m') :
    callw Try.prog 42 [v, .func (.func 43) ⟨[]⟩ ⟨[]⟩] m K Kp :=
  named_ok nm43 name65 Try.underlying23 sz80 ag80 (by decide) ag82 sz9 ze9 ag9 (fun h => c42 h) (fun h => c69 h) (fun h => c68 h) (fun h => c85 h) hs hn0 hn hR hK
theorem must37 {b : Bool} {e : Int} {m : CM} {K : Value → CM → Prop} {Kp : List PanicEntry → CM → Prop} (h1 : b = true → K (.tuple ⟨[]⟩) m) (h2 : b = false → Kp [{ v := .iface 41 (.int .i64 e), recovered := false }] m) : callw Try.prog 37 [.bool b, .int .i64 e] m K Kp := by
  apply c37
  unfold s37
  rw [cun_not, pop_some]
  cases b with
  | true => rw [show (!true) = false from rfl, cnd_false, leave0, RK_ret]; exact h1 rfl
  | false =>
    rw [show (!false) = true from rfl, cnd_true]
    refine ⟨.iface 41 (.int .i64 e), by kernel_rfl, ?_⟩
    exact ⟨_, _, rfl, h2 rfl⟩

/-! ### A shop -/
structure ShopD where
  vw : Value
  vx : Value
  nw : Nat
  nx : Nat
  rw' : Nat → List Value
  rx : Nat → List Value
  fl : Int
  fh : Int
  pl : Int
  ph : Int
def ShopD.cells (d : ShopD) : List Value := [d.vw, d.vx, .int .i64 d.fl, .int .i64 d.fh, .int .i64 d.pl, .int .i64 d.ph]
structure ShopD.In (d : ShopD) (m : CM) : Prop where
  sw : Sl 4 m d.vw d.nw d.rw'
  sx : Sl 8 m d.vx d.nx d.rx
  rw0 : ∀ i, i < d.nw → WkRow (d.rw' i)
  rx0 : ∀ i, i < d.nx → WxRow (d.rx i)
  nw0 : d.nw < 4611686018427387904
  nx0 : d.nx < 4611686018427387904
theorem ShopD.In.le {d : ShopD} {m m' : CM} (h : d.In m) (k : m.le m') : d.In m' := ⟨h.sw.le k, h.sx.le k, h.rw0, h.rx0, h.nw0, h.nx0⟩
def WkOk (r : List Value) : Prop := ∃ s a b c, r = [.string s, .int .i64 a, .int .i64 b, .int .i64 c] ∧ (1 ≤ a ∧ a ≤ 100) ∧ (1 ≤ b ∧ b ≤ 1000) ∧ (1 ≤ c ∧ c ≤ 1000) ∧ b ≤ c
def WxOk (r : List Value) : Prop := ∃ s a b c d e f g, r = [.string s, .int .i64 a, .int .i64 b, .int .i64 c, .int .i64 d, .int .i64 e, .int .i64 f, .int .i64 g] ∧ (1 ≤ a ∧ a ≤ 300) ∧ (1 ≤ b ∧ b ≤ 300) ∧ (1 ≤ c ∧ c ≤ 1000) ∧ (1 ≤ d ∧ d ≤ 1000) ∧ (1 ≤ e ∧ e ≤ 2000) ∧ (1 ≤ f ∧ f ≤ 2000) ∧ (0 ≤ g ∧ g ≤ 50) ∧ a ≤ b ∧ c ≤ d ∧ e ≤ f
structure ShopD.Ok (d : ShopD) : Prop where
  nw1 : 1 ≤ d.nw ∧ d.nw ≤ 12
  nx1 : 1 ≤ d.nx ∧ d.nx ≤ 6
  fl : 0 ≤ d.fl ∧ d.fl ≤ 2000
  fh : 0 ≤ d.fh ∧ d.fh ≤ 2000
  pl : 0 ≤ d.pl ∧ d.pl ≤ 2000
  ph : 0 ≤ d.ph ∧ d.ph ≤ 2000
  f : d.fl ≤ d.fh
  p : d.pl ≤ d.ph
  wk : ∀ i, i < d.nw → WkOk (d.rw' i)
  wx : ∀ i, i < d.nx → WxOk (d.rx i)

/-! ### Check -/
theorem chk_nil : cbin Try.prog BinOp.neq 20 (Operand.tmp 3) (Operand.const Value.nilIface) .nilIface .nilIface = some (.bool false) := by kernel_rfl
theorem chk_err (e : Int) : cbin Try.prog BinOp.neq 20 (Operand.tmp 3) (Operand.const Value.nilIface) (.iface 41 (.int .i64 e)) .nilIface = some (.bool true) := by kernel_rfl
theorem chk_as (e : Int) : cassert Try.prog (.iface 41 (.int .i64 e)) 41 false = some (.int .i64 e) := by kernel_rfl
theorem one_int (e : Int) : (toL (.int .i64 e)).all one = true := rfl
/-- Leaving Check, for each of its two endings. -/
theorem check_ret {p a x : Int} {b4 : Nat} {m : CM} {R : CE → CM → Prop} (ho : Own m b4 [.int .i64 x] 0) (h : R (.ret (.tuple ⟨[.int .i64 p, .int .i64 a, .int .i64 x]⟩)) m) :
    leaveV Try.prog [.v (.int .i64 p), .v (.int .i64 a), .c 41 (.pointer (some ⟨b4, 0, none⟩))] [(dfn (.func (Fn.func 36) ⟨[]⟩ ⟨[.pointer (some ⟨b4, 0, none⟩)]⟩) [])] .ret m R := by
  show defw Try.prog 36 [.pointer (some ⟨b4, 0, none⟩)] .ret m _
  apply cd36
  unfold d36
  show pop (cbin Try.prog BinOp.neq 20 (Operand.tmp 3) (Operand.const Value.nilIface) .nilIface Value.nilIface) m _
  rw [chk_nil, pop_some, cnd_false]
  refine ⟨.inl rfl, rfl, ⟨[], rfl⟩, ?_⟩
  show pop (cload Try.prog 41 (.pointer (some ⟨b4, 0, none⟩)) m) m _
  rw [ho.cel.z ag41 rfl, pop_some]
  exact h
theorem check_pan {p a x e : Int} {b4 : Nat} {m : CM} {R : CE → CM → Prop} (ho : Own m b4 [.int .i64 x] 0) (h : ∀ m', m'.next = m.next → (∀ y, y ≠ b4 → m'.get y = m.get y) → R (.ret (.tuple ⟨[.int .i64 p, .int .i64 a, .int .i64 e]⟩)) m') :
    leaveV Try.prog [.v (.int .i64 p), .v (.int .i64 a), .c 41 (.pointer (some ⟨b4, 0, none⟩))] [(dfn (.func (Fn.func 36) ⟨[]⟩ ⟨[.pointer (some ⟨b4, 0, none⟩)]⟩) [])] (.pan [{ v := .iface 41 (.int .i64 e), recovered := false }]) m R := by
  show defw Try.prog 36 [.pointer (some ⟨b4, 0, none⟩)] _ m _
  apply cd36
  unfold d36
  show pop (cbin Try.prog BinOp.neq 20 (Operand.tmp 3) (Operand.const Value.nilIface) (.iface 41 (.int .i64 e)) Value.nilIface) m _
  rw [chk_err, pop_some, cnd_true]
  show pop (cassert Try.prog (.iface 41 (.int .i64 e)) 41 false) m _
  rw [chk_as, pop_some]
  refine ho.store (by simp [toL, sz41]) (by simp [toL]) (one_int e) fun m' hn hx ho' => ?_
  refine ⟨.inl rfl, rfl, ⟨[], rfl⟩, ?_⟩
  show pop (cload Try.prog 41 (.pointer (some ⟨b4, 0, none⟩)) m') m' _
  have es : splice [.int .i64 x] 0 (toL (.int .i64 e)) = [Value.int .i64 e] := by simp [splice, toL]
  rw [es] at ho'
  rw [ho'.cel.z ag41 rfl, pop_some]
  exact h m' hn hx
theorem Own.keep {m m' : CM} {b b' : Nat} {c : List Value} {e : Nat} (h : Own m b c e) (hn : m'.next = m.next) (hx : ∀ y, y ≠ b' → m'.get y = m.get y) (hb : b ≠ b') : Own m' b c e := ⟨by rw [hn]; exact h.1, by rw [hx b hb]; exact h.2⟩
end Go.Proofs.Ytlgkfjgpjggmcaa.W
end

section
open Go Go.Proofs Go.Proofs.Ytlgkfjgpjggmcaa
set_option maxRecDepth 100000
namespace Go.Proofs.Ytlgkfjgpjggmcaa.W
theorem out_1 {lo hi x : Int} {m : CM} {K : Value → CM → Prop} {Kp : List PanicEntry → CM → Prop} (h : ∀ b m', m.le m' → (b = false → lo ≤ x ∧ x ≤ hi) → K (.bool b) m') :
    vop (cbuildS Try.prog 34 1 [(0, .int .i64 x)] m) (fun t m1 => callw Try.prog 38 [.int .i64 lo, .int .i64 hi, t] m1 K Kp) :=
  outL Try.underlying34 sz3 ze3 out38 (xs := [x]) (k := 1) rfl (by decide) rfl fun b m' hle hb => h b m' hle fun e => hb e x (by simp)
theorem out_2 {lo hi x y : Int} {m : CM} {K : Value → CM → Prop} {Kp : List PanicEntry → CM → Prop} (h : ∀ b m', m.le m' → (b = false → (lo ≤ x ∧ x ≤ hi) ∧ lo ≤ y ∧ y ≤ hi) → K (.bool b) m') :
    vop (cbuildS Try.prog 34 2 [(0, .int .i64 x), (1, .int .i64 y)] m) (fun t m1 => callw Try.prog 38 [.int .i64 lo, .int .i64 hi, t] m1 K Kp) :=
  outL Try.underlying34 sz3 ze3 out38 (xs := [x, y]) (k := 2) rfl (by decide) rfl fun b m' hle hb => h b m' hle fun e => ⟨hb e x (by simp), hb e y (by simp)⟩
theorem out_4 {lo hi x y z u : Int} {m : CM} {K : Value → CM → Prop} {Kp : List PanicEntry → CM → Prop} (h : ∀ b m', m.le m' → (b = false → (lo ≤ x ∧ x ≤ hi) ∧ (lo ≤ y ∧ y ≤ hi) ∧ (lo ≤ z ∧ z ≤ hi) ∧ lo ≤ u ∧ u ≤ hi) → K (.bool b) m') :
    vop (cbuildS Try.prog 34 4 [(0, .int .i64 x), (1, .int .i64 y), (2, .int .i64 z), (3, .int .i64 u)] m) (fun t m1 => callw Try.prog 38 [.int .i64 lo, .int .i64 hi, t] m1 K Kp) :=
  outL Try.underlying34 sz3 ze3 out38 (xs := [x, y, z, u]) (k := 4) rfl (by decide) rfl fun b m' hle hb => h b m' hle fun e => ⟨hb e x (by simp), hb e y (by simp), hb e z (by simp), hb e u (by simp)⟩
theorem tur_1 {a b : Int} {m : CM} {K : Value → CM → Prop} {Kp : List PanicEntry → CM → Prop} (h : ∀ t m', m.le m' → (t = false → a ≤ b) → K (.bool t) m') :
    vop (cbuildS Try.prog 110 1 [(0, .agg ⟨[.int .i64 a, .int .i64 b]⟩)] m) (fun t m1 => callw Try.prog 39 [t] m1 K Kp) :=
  turnedL Try.underlying110 sz25 ze25 turned39 (xs := [(a, b)]) (k := 1) rfl (by decide) rfl fun t m' hle hb => h t m' hle fun e => hb e (a, b) (by simp)
theorem tur_2 {a b c d : Int} {m : CM} {K : Value → CM → Prop} {Kp : List PanicEntry → CM → Prop} (h : ∀ t m', m.le m' → (t = false → a ≤ b ∧ c ≤ d) → K (.bool t) m') :
    vop (cbuildS Try.prog 110 2 [(0, .agg ⟨[.int .i64 a, .int .i64 b]⟩), (1, .agg ⟨[.int .i64 c, .int .i64 d]⟩)] m) (fun t m1 => callw Try.prog 39 [t] m1 K Kp) :=
  turnedL Try.underlying110 sz25 ze25 turned39 (xs := [(a, b), (c, d)]) (k := 2) rfl (by decide) rfl fun t m' hle hb => h t m' hle fun e => ⟨hb e (a, b) (by simp), hb e (c, d) (by simp)⟩
theorem tur_3 {a b c d e f : Int} {m : CM} {K : Value → CM → Prop} {Kp : List PanicEntry → CM → Prop} (h : ∀ t m', m.le m' → (t = false → a ≤ b ∧ c ≤ d ∧ e ≤ f) → K (.bool t) m') :
    vop (cbuildS Try.prog 110 3 [(0, .agg ⟨[.int .i64 a, .int .i64 b]⟩), (1, .agg ⟨[.int .i64 c, .int .i64 d]⟩), (2, .agg ⟨[.int .i64 e, .int .i64 f]⟩)] m) (fun t m1 => callw Try.prog 39 [t] m1 K Kp) :=
  turnedL Try.underlying110 sz25 ze25 turned39 (xs := [(a, b), (c, d), (e, f)]) (k := 3) rfl (by decide) rfl fun t m' hle hb => h t m' hle fun e' => ⟨hb e' (a, b) (by simp), hb e' (c, d) (by simp), hb e' (e, f) (by simp)⟩
theorem alloc_store {t : TypeId} {l : List Value} {P : Program} {v : Value} {m : CM} {F : Value → CM → Prop} (hz : zeroL P t = some l) (hs : szOf P t = some (toL v).length) (hl : (toL v).length = l.length) (h1 : (toL v).all one = true)
    (h : ∀ b m', m.le m' → m.next ≤ b → Own m' b (toL v) 0 → F (.pointer (some ⟨b, 0, none⟩)) m') : alw P t m (fun p m1 => sop (cstore P t p v m1) (fun _ m2 => F p m2)) := var_of hz hs hl h1 h

theorem set41 {x e : Int} {b4 : Nat} {m : CM} {K : Value → CM → Prop} (ho : Own m b4 [.int .i64 x] 0) (h : ∀ m', m'.next = m.next → (∀ y, y ≠ b4 → m'.get y = m.get y) → Own m' b4 [.int .i64 e] 0 → K undef m') : sop (cstore Try.prog 41 (.pointer (some ⟨b4, 0, none⟩)) (.int .i64 e) m) K := by
  refine ho.store (by simp [toL, sz41]) (by simp [toL]) (one_int e) fun m4 hn4 hx4 ho4 => ?_
  have es : splice [.int .i64 x] 0 (toL (.int .i64 e)) = [Value.int .i64 e] := by simp [splice, toL]
  rw [es] at ho4
  exact h m4 hn4 hx4 ho4
set_option maxHeartbeats 1000000 in
theorem check7 {d : ShopD} {m : CM} (hd : d.In m) {K : Value → CM → Prop} {Kp : List PanicEntry → CM → Prop} (hK : ∀ (p a e : Int) m', m.le m' → (e = 0 → d.Ok) → K (.tuple ⟨[.int .i64 p, .int .i64 a, .int .i64 e]⟩) m') :
    callw Try.prog 7 [.agg ⟨d.cells⟩] m K Kp := by
  apply c7
  unfold s7
  refine box_of fun b1 m1 hle1 hb1 ho1 => alw_of ze41 fun b4 m2 hle2 hb4 ho4 => ?_
  have hb14 : b1 ≠ b4 := by have := ho1.1; omega
  have ho1 : Own m2 b1 d.cells 0 := ho1.le hle2
  have hle : m.le m2 := hle1.trans hle2
  have hb4m : m.next ≤ b4 := Nat.le_trans hle1.1 hb4
  -- where it panics
  have bad : ∀ {p a e x : Int} {m' : CM}, m.le m' → e ≠ 0 → Own m' b4 [.int .i64 x] 0 →
      leaveV Try.prog [.v (.int .i64 p), .v (.int .i64 a), .c 41 (.pointer (some ⟨b4, 0, none⟩))] [(dfn (.func (Fn.func 36) ⟨[]⟩ ⟨[.pointer (some ⟨b4, 0, none⟩)]⟩) [])] (.pan [{ v := .iface 41 (.int .i64 e), recovered := false }]) m' (RK K Kp) := by
    intro p a e x m' hl he ho
    exact check_pan ho fun m2 hn hx => hK _ _ _ _ (le_of_put hl hb4m hn hx) fun h => absurd h he
  clear hb1 hb4 hle1 hle2
  rw [fz27_0, pop_some, ho1.cel.z ag22 (j := 0) rfl, pop_some, (hd.sw.le hle).len Try.underlying22, pop_some]
  refine out_1 fun t14 m3 hle3 h14 => ?_
  rw [cun_not, pop_some]
  replace ho1 := ho1.le hle3
  replace ho4 := ho4.le hle3
  replace hle := hle.trans hle3
  cases t14 with
  | true =>
    simp only [Bool.not_true, gb_bool, Bool.false_beq, gop_false, cpick_bool, pop_some, Bool.false_eq_true, if_false]
    exact must37 (fun h => by cases h) fun _ => bad hle (by decide) ho4
  | false =>
  have hw12 := h14 rfl
  simp only [Bool.not_false, gb_bool, Bool.true_beq, gop_true]
  rw [fz27_1, pop_some, ho1.cel.z ag23 (j := 1) rfl, pop_some, (hd.sx.le hle).len Try.underlying23, pop_some]
  refine out_1 fun t21 m4 hle4 h21 => ?_
  rw [cun_not, pop_some, cpick_bool, pop_some, if_pos rfl]
  replace ho1 := ho1.le hle4
  replace ho4 := ho4.le hle4
  replace hle := hle.trans hle4
  refine must37 (fun h => ?_) (fun _ => bad hle (by decide) ho4)
  have hx6 := h21 (by simpa using h)
  clear h h14 h21
  simp only [fz27_2, fz27_3, fa25_0, fa25_1, pop_some, Nat.reduceAdd]
  have ld : ∀ {m' : CM} {j : Nat} {n : Int}, Own m' b1 d.cells 0 → d.cells[j]? = some (.int .i64 n) → cload Try.prog 3 (.pointer (some ⟨b1, j, none⟩)) m' = some (.int .i64 n) := fun h hj => h.cel.z ag3 hj
  have lsp : ∀ {m' : CM} {j : Nat} {n n' : Int}, Own m' b1 d.cells 0 → (d.cells.drop j).take 2 = [.int .i64 n, .int .i64 n'] → j + 2 ≤ d.cells.length → cload Try.prog 25 (.pointer (some ⟨b1, j, none⟩)) m' = some (.agg ⟨[.int .i64 n, .int .i64 n']⟩) :=
    fun h hj hl => by rw [h.cel.za ag25 sz25 hl, hj]
  rw [ld ho1 rfl, pop_some, ld ho1 rfl, pop_some, ld ho1 rfl, pop_some, ld ho1 rfl, pop_some]
  refine out_4 fun t38 m5 hle5 h38 => ?_
  rw [cun_not, pop_some]
  replace ho1 := ho1.le hle5
  replace ho4 := ho4.le hle5
  replace hle := hle.trans hle5
  refine must37 (fun h => ?_) (fun _ => bad hle (by decide) ho4)
  have hr := h38 (by simpa using h)
  clear h h38
  have hlc : d.cells.length = 6 := rfl
  rw [lsp ho1 rfl (by rw [hlc]; decide), pop_some, lsp ho1 rfl (by rw [hlc]; decide), pop_some]
  refine tur_2 fun t46 m6 hle6 h46 => ?_
  rw [cun_not, pop_some]
  replace ho1 := ho1.le hle6
  replace ho4 := ho4.le hle6
  replace hle := hle.trans hle6
  refine must37 (fun h => ?_) (fun _ => bad hle (by decide) ho4)
  have ht := h46 (by simpa using h)
  clear h h46
  rw [ho1.cel.z ag22 (j := 0) rfl, pop_some, (hd.sw.le hle).len Try.underlying22, pop_some]
  -- the wicks
  clear hle3 hle4 hle5 hle6
  refine loopA_of (fun l ds m' => ds = [(dfn (.func (Fn.func 36) ⟨[]⟩ ⟨[.pointer (some ⟨b4, 0, none⟩)]⟩) [])] ∧ m.le m' ∧ Own m' b1 d.cells 0 ∧ (∃ x, Own m' b4 [.int .i64 x] 0) ∧ ∃ i : Nat, i ≤ d.nw ∧ (∀ j, j < i → WkOk (d.rw' j)) ∧
      l = [.pointer (some ⟨b1, 0, none⟩), .int .i64 2, .pointer (some ⟨b4, 0, none⟩), d.vw, .int .i64 d.nw, .int .i64 i])
    (fun l _ => match l with | [_, _, _, _, _, .int _ i] => d.nw - i.toNat | _ => 0) ⟨rfl, hle, ho1, ⟨_, ho4⟩, 0, by omega, fun j hj => by omega, rfl⟩ ?_
  clear ho1 ho4 hle
  rintro X ρ ds m1 ⟨rfl, hle, ho1, ⟨x4, ho4⟩, i, hi, hok, hl⟩ hX
  simp only [List.map_cons, List.map_nil, List.cons.injEq, and_true] at hl
  obtain ⟨r1, r2, r4, r50, r51, r52⟩ := hl
  simp only [r1, r2, r4, r50, r51, r52, cb_lss, pop_some]
  by_cases hc : i < d.nw
  · have hc' : decide ((i : Int) < (d.nw : Int)) = true := by simpa using hc
    have hn0 := hd.nw0
    rw [hc', cnd_true]
    obtain ⟨b, o, hia, hcel, hlen⟩ := (hd.sw.le hle).at Try.underlying22 sz76 (i := i) (by omega) (by omega)
    simp only [Int.toNat_natCast] at hcel hlen
    rw [hia, pop_some, hcel.elv ag76 sz76 hlen (fun h => by cases h), pop_some]
    obtain ⟨s, th, plo, phi, hrow⟩ := hd.rw0 i hc
    rw [hrow]
    refine alloc_store ze76 (by simp [toL, elv, sz76]) (by simp [toL, elv]) (by simp [toL, elv, one]) fun b6 m2 hle2 hb6 ho6 => ?_
    simp only [toL, elv] at ho6
    have hb64 : b6 ≠ b4 := by have := ho4.1; omega
    have hb61 : b1 ≠ b6 := by have := ho1.1; omega
    replace ho1 := ho1.le hle2
    replace ho4 := ho4.le hle2
    replace hle := hle.trans hle2
    have hw1 : IntKind.i64.wrap ((i : Int) + 1) = (i : Int) + 1 := wrap_id (by omega) (by omega)
    obtain ⟨v', hv', hs'⟩ := (hd.sw.le hle).pre Try.underlying22 sz76 (by decide) (i := (i : Int) + 1) (by omega) (by omega) (by omega) (.refl m2)
    simp only [fz27_0, fz76_1, fz76_2, fa25_0, fa25_1, pop_some, Nat.reduceAdd]
    rw [ho1.cel.z ag22 (j := 0) rfl, pop_some, cb_add, pop_some, hw1, hv', pop_some]
    refine named40 hs' (by omega) (by omega) (fun j hj => hd.rw0 j (by omega)) fun m3 e hle3 => ?_
    replace ho1 := ho1.le hle3
    replace ho4 := ho4.le hle3
    replace ho6 := ho6.le hle3
    replace hle := hle.trans hle3
    refine set41 ho4 fun m4 hn4 hx4 ho4' => ?_
    replace ho1 := Own.keep ho1 hn4 hx4 hb14
    replace ho6 := Own.keep ho6 hn4 hx4 hb64
    replace hle := le_of_put hle hb4m hn4 hx4
    clear ho4 hn4 hx4 hle2 hle3
    rw [ho4'.cel.z ag41 rfl, pop_some, cb_eql, pop_some, ho4'.cel.z ag41 rfl, pop_some]
    refine must37 (fun h => ?_) (fun h => bad hle (by simpa using h) ho4')
    have he0 : e = 0 := by simpa using h
    subst he0
    clear h
    have l6 : ∀ {m' : CM} {j : Nat} {n : Int}, Own m' b6 [.string s, .int .i64 th, .int .i64 plo, .int .i64 phi] 0 → ([.string s, .int .i64 th, .int .i64 plo, .int .i64 phi] : List Value)[j]? = some (.int .i64 n) → cload Try.prog 3 (.pointer (some ⟨b6, j, none⟩)) m' = some (.int .i64 n) := fun h hj => h.cel.z ag3 hj
    rw [l6 ho6 rfl, pop_some]
    refine out_1 fun t71 m5 hle5 h71 => ?_
    rw [cun_not, pop_some]
    replace ho1 := ho1.le hle5
    replace ho4' := ho4'.le hle5
    replace ho6 := ho6.le hle5
    replace hle := hle.trans hle5
    cases t71 with
    | true =>
      simp only [Bool.not_true, gb_bool, Bool.false_beq, gop_false, cpick_bool, pop_some, Bool.false_eq_true, if_false]
      exact must37 (fun h => by cases h) fun _ => bad hle (by decide) ho4'
    | false =>
    have hth := h71 rfl
    simp only [Bool.not_false, gb_bool, Bool.true_beq, gop_true, cpick_bool, if_true, fa25_0, fa25_1, pop_some, Nat.reduceAdd]
    rw [l6 ho6 rfl, pop_some, l6 ho6 rfl, pop_some]
    refine out_2 fun t81 m6 hle6 h81 => ?_
    rw [cun_not, pop_some]
    replace ho1 := ho1.le hle6
    replace ho4' := ho4'.le hle6
    replace ho6 := ho6.le hle6
    replace hle := hle.trans hle6
    refine must37 (fun h => ?_) (fun _ => bad hle (by decide) ho4')
    have hp2 := h81 (by simpa using h)
    clear h h81 h71
    rw [show cload Try.prog 25 (.pointer (some ⟨b6, 2, none⟩)) m6 = some (.agg ⟨[.int .i64 plo, .int .i64 phi]⟩) from ho6.cel.za ag25 sz25 (j := 2) (by simp), pop_some]
    refine tur_1 fun t88 m7 hle7 h88 => ?_
    rw [cun_not, pop_some]
    replace ho1 := ho1.le hle7
    replace ho4' := ho4'.le hle7
    replace hle := hle.trans hle7
    refine must37 (fun h => ?_) (fun _ => bad hle (by decide) ho4')
    have hp3 := h88 (by simpa using h)
    rw [cb_add, pop_some, hw1]
    refine hX _ _ _ ⟨rfl, hle, ho1, ⟨_, ho4'⟩, i + 1, by omega, fun j hj => ?_, by simp⟩ ?_
    · by_cases ej : j = i
      · subst ej; exact ⟨s, th, plo, phi, hrow, hth, hp2.1, hp2.2, hp3⟩
      · exact hok j (by omega)
    · simp only [List.map_cons, List.map_nil, r52]; omega
  have hc' : decide ((i : Int) < (d.nw : Int)) = false := by simpa using hc
  rw [hc', cnd_false]
  have hwk : ∀ j, j < d.nw → WkOk (d.rw' j) := fun j hj => hok j (by omega)
  clear hok hX r1 r2 r4 r50 r51 r52 hc hc' hi
  simp only [fz27_1, pop_some]
  rw [ho1.cel.z ag23 (j := 1) rfl, pop_some, (hd.sx.le hle).len Try.underlying23, pop_some]
  -- the waxes
  clear X ρ i
  refine loopA_of (fun l ds m' => ds = [(dfn (.func (Fn.func 36) ⟨[]⟩ ⟨[.pointer (some ⟨b4, 0, none⟩)]⟩) [])] ∧ m.le m' ∧ Own m' b1 d.cells 0 ∧ (∃ x, Own m' b4 [.int .i64 x] 0) ∧ ∃ i : Nat, i ≤ d.nx ∧ (∀ j, j < i → WxOk (d.rx j)) ∧
      l = [.pointer (some ⟨b1, 0, none⟩), .int .i64 3, .pointer (some ⟨b4, 0, none⟩), d.vx, .int .i64 d.nx, .int .i64 i])
    (fun l _ => match l with | [_, _, _, _, _, .int _ i] => d.nx - i.toNat | _ => 0) ⟨rfl, hle, ho1, ⟨_, ho4⟩, 0, by omega, fun j hj => by omega, rfl⟩ ?_
  clear ho1 ho4 hle
  rintro X ρ ds m1 ⟨rfl, hle, ho1, ⟨x4, ho4⟩, i, hi, hok, hl⟩ hX
  simp only [List.map_cons, List.map_nil, List.cons.injEq, and_true] at hl
  obtain ⟨r1, r2, r4, r50, r51, r52⟩ := hl
  simp only [r1, r2, r4, r50, r51, r52, cb_lss, pop_some]
  by_cases hc : i < d.nx
  · have hc' : decide ((i : Int) < (d.nx : Int)) = true := by simpa using hc
    have hn0 := hd.nx0
    rw [hc', cnd_true]
    obtain ⟨b, o, hia, hcel, hlen⟩ := (hd.sx.le hle).at Try.underlying23 sz80 (i := i) (by omega) (by omega)
    simp only [Int.toNat_natCast] at hcel hlen
    rw [hia, pop_some, hcel.elv ag80 sz80 hlen (fun h => by cases h), pop_some]
    obtain ⟨s, x1, x2, x3, x4', x5, x6, x7, hrow⟩ := hd.rx0 i hc
    rw [hrow]
    refine alloc_store ze80 (by simp [toL, elv, sz80]) (by simp [toL, elv]) (by simp [toL, elv, one]) fun b6 m2 hle2 hb6 ho6 => ?_
    simp only [toL, elv] at ho6
    have hb64 : b6 ≠ b4 := by have := ho4.1; omega
    replace ho1 := ho1.le hle2
    replace ho4 := ho4.le hle2
    replace hle := hle.trans hle2
    have hw1 : IntKind.i64.wrap ((i : Int) + 1) = (i : Int) + 1 := wrap_id (by omega) (by omega)
    obtain ⟨v', hv', hs'⟩ := (hd.sx.le hle).pre Try.underlying23 sz80 (by decide) (i := (i : Int) + 1) (by omega) (by omega) (by omega) (.refl m2)
    simp only [fz27_1, fz80_1, fz80_2, fz80_3, fz80_4, fa25_0, fa25_1, pop_some, Nat.reduceAdd]
    rw [ho1.cel.z ag23 (j := 1) rfl, pop_some, cb_add, pop_some, hw1, hv', pop_some]
    refine named42 hs' (by omega) (by omega) (fun j hj => hd.rx0 j (by omega)) fun m3 e hle3 => ?_
    replace ho1 := ho1.le hle3
    replace ho4 := ho4.le hle3
    replace ho6 := ho6.le hle3
    replace hle := hle.trans hle3
    refine set41 ho4 fun m4 hn4 hx4 ho4' => ?_
    replace ho1 := Own.keep ho1 hn4 hx4 hb14
    replace ho6 := Own.keep ho6 hn4 hx4 hb64
    replace hle := le_of_put hle hb4m hn4 hx4
    clear ho4 hn4 hx4 hle2 hle3
    rw [ho4'.cel.z ag41 rfl, pop_some, cb_eql, pop_some, ho4'.cel.z ag41 rfl, pop_some]
    refine must37 (fun h => ?_) (fun h => bad hle (by simpa using h) ho4')
    have he0 : e = 0 := by simpa using h
    subst he0
    clear h
    generalize hc6 : [Value.string s, .int .i64 x1, .int .i64 x2, .int .i64 x3, .int .i64 x4', .int .i64 x5, .int .i64 x6, .int .i64 x7] = c6 at ho6
    have l6 : ∀ {m' : CM} {j : Nat} {n : Int}, Own m' b6 c6 0 → c6[j]? = some (.int .i64 n) → cload Try.prog 3 (.pointer (some ⟨b6, j, none⟩)) m' = some (.int .i64 n) := fun h hj => h.cel.z ag3 hj
    have la6 : ∀ {m' : CM} {j : Nat} {n n' : Int}, Own m' b6 c6 0 → (c6.drop j).take 2 = [.int .i64 n, .int .i64 n'] → j + 2 ≤ 8 → cload Try.prog 25 (.pointer (some ⟨b6, j, none⟩)) m' = some (.agg ⟨[.int .i64 n, .int .i64 n']⟩) :=
      fun h hj hl => by rw [h.cel.za ag25 sz25 (by subst hc6; exact hl), hj]
    subst hc6
    rw [l6 ho6 rfl, pop_some]
    refine out_1 fun t71 m5 hle5 h71 => ?_
    rw [cun_not, pop_some]
    replace ho1 := ho1.le hle5
    replace ho4' := ho4'.le hle5
    replace ho6 := ho6.le hle5
    replace hle := hle.trans hle5
    cases t71 with
    | true =>
      simp only [Bool.not_true, gb_bool, Bool.false_beq, gop_false, cpick_bool, pop_some, Bool.false_eq_true, if_false]
      exact must37 (fun h => by cases h) fun _ => bad hle (by decide) ho4'
    | false =>
    have hth := h71 rfl
    simp only [Bool.not_false, gb_bool, Bool.true_beq, gop_true, cpick_bool, if_true, fa25_0, fa25_1, pop_some, Nat.reduceAdd]
    rw [l6 ho6 rfl, pop_some, l6 ho6 rfl, pop_some]
    refine out_2 fun t81 m6 hle6 h81 => ?_
    rw [cun_not, pop_some]
    replace ho1 := ho1.le hle6
    replace ho4' := ho4'.le hle6
    replace ho6 := ho6.le hle6
    replace hle := hle.trans hle6
    refine must37 (fun h => ?_) (fun _ => bad hle (by decide) ho4')
    have hp2 := h81 (by simpa using h)
    clear h h81 h71
    rw [l6 ho6 rfl, pop_some, l6 ho6 rfl, pop_some]
    refine out_2 fun t91 m7 hle7 h91 => ?_
    rw [cun_not, pop_some]
    replace ho1 := ho1.le hle7
    replace ho4' := ho4'.le hle7
    replace ho6 := ho6.le hle7
    replace hle := hle.trans hle7
    cases t91 with
    | true =>
      simp only [Bool.not_true, gb_bool, Bool.false_beq, gop_false, cpick_bool, pop_some, Bool.false_eq_true, if_false]
      exact must37 (fun h => by cases h) fun _ => bad hle (by decide) ho4'
    | false =>
    have hr2 := h91 rfl
    simp only [Bool.not_false, gb_bool, Bool.true_beq, gop_true, cpick_bool, if_true, fa25_0, fa25_1, pop_some, Nat.reduceAdd]
    rw [l6 ho6 rfl, pop_some, l6 ho6 rfl, pop_some]
    refine out_2 fun tA m8 hle8 hA => ?_
    rw [cun_not, pop_some]
    replace ho1 := ho1.le hle8
    replace ho4' := ho4'.le hle8
    replace ho6 := ho6.le hle8
    replace hle := hle.trans hle8
    refine must37 (fun h => ?_) (fun _ => bad hle (by decide) ho4')
    have hs2 := hA (by simpa using h)
    clear h hA h91
    rw [la6 ho6 rfl (by decide), pop_some, la6 ho6 rfl (by decide), pop_some, la6 ho6 rfl (by decide), pop_some]
    refine tur_3 fun t88 m9 hle9 h88 => ?_
    rw [cun_not, pop_some]
    replace ho1 := ho1.le hle9
    replace ho4' := ho4'.le hle9
    replace hle := hle.trans hle9
    refine must37 (fun h => ?_) (fun _ => bad hle (by decide) ho4')
    have hp3 := h88 (by simpa using h)
    rw [cb_add, pop_some, hw1]
    refine hX _ _ _ ⟨rfl, hle, ho1, ⟨_, ho4'⟩, i + 1, by omega, fun j hj => ?_, by simp⟩ ?_
    · by_cases ej : j = i
      · subst ej; exact ⟨s, x1, x2, x3, x4', x5, x6, x7, hrow, hp2.1, hp2.2, hr2.1, hr2.2, hs2.1, hs2.2, hth, hp3.1, hp3.2.1, hp3.2.2⟩
      · exact hok j (by omega)
    · simp only [List.map_cons, List.map_nil, r52]; omega
  have hc' : decide ((i : Int) < (d.nx : Int)) = false := by simpa using hc
  rw [hc', cnd_false]
  have hwx : ∀ j, j < d.nx → WxOk (d.rx j) := fun j hj => hok j (by omega)
  refine set41 ho4 fun m4 hn4 hx4 ho4' => ?_
  refine check_ret ho4' ?_
  rw [RK_ret]
  refine hK _ _ _ _ (le_of_put hle hb4m hn4 hx4) fun _ => ⟨⟨by omega, by omega⟩, ⟨by omega, by omega⟩, hr.1, hr.2.1, hr.2.2.1, hr.2.2.2, ht.1, ht.2, hwk, hwx⟩
end Go.Proofs.Ytlgkfjgpjggmcaa.W
end

section
open Go Go.Proofs Go.Proofs.Ytlgkfjgpjggmcaa
set_option maxRecDepth 100000
namespace Go.Proofs.Ytlgkfjgpjggmcaa.W
theorem cb_quo {t : TypeId} {x y : Operand} {k : IntKind} {a b : Int} (h : b ≠ 0) : cbin Try.prog .quo t x y (.int k a) (.int k b) = some (.int k (k.wrap (a.tdiv b))) := by simp [cbin, plainV, eqg, binOp_quo, Op.intDiv, h, pr_pure, chk]
theorem cun_neg {k : IntKind} {a : Int} : cun Try.prog .neg (.int k a) = some (.int k (k.wrap (-a))) := by simp [cun, plainV, Op.unary, Op.intArith, pr_pure, chk]

structure CandD where
  wax : Int
  dia : Int
  dra : Int
  lo : Int
  hi : Int
def CandD.cells (c : CandD) : List Value := [.int .i64 c.wax, .int .i64 c.dia, .int .i64 c.dra, .int .i64 c.lo, .int .i64 c.hi]
structure CandD.Ok (c : CandD) (d : ShopD) : Prop where
  wax : 0 ≤ c.wax ∧ c.wax < d.nx
  dia : 1 ≤ c.dia ∧ c.dia ≤ 2000
  dra : 0 ≤ c.dra ∧ c.dra ≤ 90
  lo : 0 ≤ c.lo ∧ c.lo ≤ 300
  hi : 0 ≤ c.hi ∧ c.hi ≤ 300
/-- A shop that is looked at. -/
def lookC (d : ShopD) (c : CandD) : List Value := d.cells ++ c.cells ++ d.rx c.wax.toNat
/-- open. -/
theorem open44 {d : ShopD} {c : CandD} {m : CM} (hd : d.In m) {v : Value} {n : Nat} {x : Nat → Int} (hs : Sl 1 m v n (fun i => [.int .i64 (x i)])) (hn : n < 4611686018427387904) {K : Value → CM → Prop} {Kp : List PanicEntry → CM → Prop}
    (hbad : ∀ m' e, m.le m' → e ≠ 0 → K (.tuple ⟨[.pointer none, .int .i64 e]⟩) m')
    (hK : ∀ m' b, m.le m' → m.next ≤ b → Own m' b (lookC d c) 0 → d.Ok → c.Ok d → (∀ j, j < n → 0 ≤ x j ∧ x j < d.nw) → K (.tuple ⟨[.pointer (some ⟨b, 0, none⟩), .int .i64 0]⟩) m') :
    callw Try.prog 44 [.agg ⟨d.cells⟩, .agg ⟨c.cells⟩, v] m K Kp := by
  apply c44
  unfold s44
  refine box_of fun p m1 hle1 hp hop => box_of fun q m2 hle2 hq hoq => ?_
  replace hop : Own m2 p d.cells 0 := hop.le hle2
  replace hoq : Own m2 q c.cells 0 := hoq
  have hle := hle1.trans hle2
  have ldsh : ∀ {m' : CM}, Own m' p d.cells 0 → cload Try.prog 27 (.pointer (some ⟨p, 0, none⟩)) m' = some (.agg ⟨d.cells⟩) := fun h => h.cel.za ag27 sz27 (j := 0) (by simp [ShopD.cells])
  have ldcd : ∀ {m' : CM}, Own m' q c.cells 0 → cload Try.prog 29 (.pointer (some ⟨q, 0, none⟩)) m' = some (.agg ⟨c.cells⟩) := fun h => h.cel.za ag29 sz29 (j := 0) (by simp [CandD.cells])
  have lq : ∀ {m' : CM} {j : Nat} {n : Int}, Own m' q c.cells 0 → c.cells[j]? = some (.int .i64 n) → cload Try.prog 3 (.pointer (some ⟨q, j, none⟩)) m' = some (.int .i64 n) := fun h hj => h.cel.z ag3 hj
  simp only [fz27_0, fz27_1, fz29_0, fz29_1, fz29_2, fz29_3, fa25_0, fa25_1, pop_some, Nat.reduceAdd]
  rw [ldsh hop, pop_some]
  refine check7 (hd.le hle) fun p0 a0 e m3 hle3 hok => ?_
  replace hop := hop.le hle3
  replace hoq := hoq.le hle3
  replace hle := hle.trans hle3
  simp only [cext, List.getElem?_cons_zero, List.getElem?_cons_succ, pop_some, cb_neq]
  cases he : (e != 0) with
  | true => rw [cnd_true, leave2, RK_ret]; exact hbad _ _ hle (by simpa using he)
  | false =>
  have he0 : e = 0 := by simpa using he
  have hD := hok he0
  have hn12 := hD.nw1
  have hx6 := hD.nx1
  rw [cnd_false]
  rw [hop.cel.z ag22 (j := 0) rfl, pop_some, (hd.sw.le hle).len Try.underlying22, pop_some, cb_sub, pop_some, wrap_id (by omega) (by omega)]
  refine out38 m3 v n x _ _ _ _ (hs.le hle) hn fun m4 b4 hle4 h4 => ?_
  replace hop := hop.le hle4
  replace hoq := hoq.le hle4
  replace hle := hle.trans hle4
  cases b4 with
  | true =>
    simp only [gb_bool, Bool.true_beq, gop_false, cpick_bool, pop_some, if_true, cnd_true]
    rw [leave2, RK_ret]; exact hbad _ _ hle (by decide)
  | false =>
  have hwi := h4 rfl
  simp only [gb_bool, beq_self_eq_true, gop_true, cpick_bool, Bool.false_eq_true, if_false]
  rw [hop.cel.z ag23 (j := 1) rfl, pop_some, (hd.sx.le hle).len Try.underlying23, pop_some, cb_sub, pop_some, wrap_id (by omega) (by omega)]
  rw [lq hoq rfl, pop_some]
  refine out_1 fun b5 m5 hle5 h5 => ?_
  replace hop := hop.le hle5
  replace hoq := hoq.le hle5
  replace hle := hle.trans hle5
  rw [pop_some]
  cases b5 with
  | true => rw [cnd_true, leave2, RK_ret]; exact hbad _ _ hle (by decide)
  | false =>
  have hwx := h5 rfl
  rw [cnd_false, lq hoq rfl, pop_some]
  refine out_1 fun b6 m6 hle6 h6 => ?_
  replace hop := hop.le hle6
  replace hoq := hoq.le hle6
  replace hle := hle.trans hle6
  cases b6 with
  | true =>
    simp only [gb_bool, Bool.true_beq, gop_false, cpick_bool, pop_some, if_true, cnd_true]
    rw [leave2, RK_ret]; exact hbad _ _ hle (by decide)
  | false =>
  have hdia := h6 rfl
  simp only [gb_bool, beq_self_eq_true, gop_true, cpick_bool, Bool.false_eq_true, if_false, pop_some]
  rw [lq hoq rfl, pop_some]
  refine out_1 fun b7 m7 hle7 h7 => ?_
  replace hop := hop.le hle7
  replace hoq := hoq.le hle7
  replace hle := hle.trans hle7
  cases b7 with
  | true =>
    simp only [gb_bool, Bool.true_beq, gop_false, cpick_bool, pop_some, if_true, cnd_true]
    rw [leave2, RK_ret]; exact hbad _ _ hle (by decide)
  | false =>
  have hdra := h7 rfl
  simp only [gb_bool, beq_self_eq_true, gop_true, cpick_bool, Bool.false_eq_true, if_false, pop_some, fa25_0, fa25_1, Nat.reduceAdd]
  rw [lq hoq rfl, pop_some, lq hoq rfl, pop_some]
  refine out_2 fun b8 m8 hle8 h8 => ?_
  replace hop := hop.le hle8
  replace hoq := hoq.le hle8
  replace hle := hle.trans hle8
  cases b8 with
  | true => rw [cnd_true, leave2, RK_ret]; exact hbad _ _ hle (by decide)
  | false =>
  have hco := h8 rfl
  rw [cnd_false]
  rw [show cload Try.prog 25 (.pointer (some ⟨q, 3, none⟩)) m8 = some (.agg ⟨[.int .i64 c.lo, .int .i64 c.hi]⟩) from hoq.cel.za ag25 sz25 (j := 3) (by simp [CandD.cells]), pop_some]
  refine tur_1 fun b9 m9 hle9 _ => ?_
  replace hop := hop.le hle9
  replace hoq := hoq.le hle9
  replace hle := hle.trans hle9
  cases b9 with
  | true => rw [cnd_true, leave2, RK_ret]; exact hbad _ _ hle (by decide)
  | false =>
  rw [cnd_false, ldsh hop, pop_some, ldcd hoq, pop_some]
  obtain ⟨bx, ox, hia, hcel, hlen⟩ := (hd.sx.le hle).at Try.underlying23 sz80 (i := c.wax) (by omega) (by omega)
  rw [hop.cel.z ag23 (j := 1) rfl, pop_some, lq hoq rfl, pop_some, hia, pop_some, hcel.elv ag80 sz80 hlen (fun h => by cases h), pop_some]
  obtain ⟨s, w1, w2, w3, w4, w5, w6, w7, hrow⟩ := hd.rx0 c.wax.toNat (by omega)
  have hb : cbuild Try.prog 100 [(0, .agg ⟨d.cells⟩), (1, .agg ⟨c.cells⟩), (2, elv true (d.rx c.wax.toNat))] = some (.agg ⟨lookC d c⟩) := by
    rw [lookC, hrow]; kernel_rfl
  rw [hb, pop_some]
  refine box_of fun b mA hleA hb' ho => ?_
  rw [leave2, RK_ret]
  exact hK _ b (hle.trans hleA) (Nat.le_trans hle.1 hb') ho hD ⟨⟨by omega, by omega⟩, hdia, hdra, hco.1, hco.2⟩ fun j hj => by have := hwi j hj; omega

/-! ### Burning -/
def prod4 (x : Nat → Int) : Nat → Int
  | 0 => 1
  | n + 1 => IntKind.i64.wrap (prod4 x n * x n)
theorem cix0 (x0 x1 x2 x3 : Int) : cindex Try.prog 120 (.agg ⟨[.int .i64 x0, .int .i64 x1, .int .i64 x2, .int .i64 x3]⟩) (.int .i64 0) = some (.int .i64 x0) := by kernel_rfl
theorem cix1 (x0 x1 x2 x3 : Int) : cindex Try.prog 120 (.agg ⟨[.int .i64 x0, .int .i64 x1, .int .i64 x2, .int .i64 x3]⟩) (.int .i64 1) = some (.int .i64 x1) := by kernel_rfl
theorem cix2 (x0 x1 x2 x3 : Int) : cindex Try.prog 120 (.agg ⟨[.int .i64 x0, .int .i64 x1, .int .i64 x2, .int .i64 x3]⟩) (.int .i64 2) = some (.int .i64 x2) := by kernel_rfl
theorem cix3 (x0 x1 x2 x3 : Int) : cindex Try.prog 120 (.agg ⟨[.int .i64 x0, .int .i64 x1, .int .i64 x2, .int .i64 x3]⟩) (.int .i64 3) = some (.int .i64 x3) := by kernel_rfl
theorem product70 {x0 x1 x2 x3 : Int} {m : CM} {K : Value → CM → Prop} {Kp : List PanicEntry → CM → Prop} (hK : ∀ m', m.le m' → K (.int .i64 (prod4 (fun i => [x0, x1, x2, x3].getD i 0) 4)) m') :
    callw Try.prog 70 [.agg ⟨[.int .i64 x0, .int .i64 x1, .int .i64 x2, .int .i64 x3]⟩] m K Kp := by
  apply c70
  unfold s70
  refine box_of fun p m1 hle hp ho => ?_
  have hld : cload Try.prog 120 (.pointer (some ⟨p, 0, none⟩)) m1 = some (.agg ⟨[.int .i64 x0, .int .i64 x1, .int .i64 x2, .int .i64 x3]⟩) := by
    have := ho.cel.za ag120 sz120 (j := 0) (by simp [toL]); simpa [toL] using this
  rw [hld, pop_some]
  refine loopA_of (fun l ds m' => ds = [] ∧ m' = m1 ∧ ∃ i : Nat, i ≤ 4 ∧ l = [.int .i64 (prod4 (fun i => [x0, x1, x2, x3].getD i 0) i), .agg ⟨[.int .i64 x0, .int .i64 x1, .int .i64 x2, .int .i64 x3]⟩, .int .i64 i])
    (fun l _ => match l with | [_, _, .int _ i] => 4 - i.toNat | _ => 0) ⟨rfl, rfl, 0, by omega, rfl⟩ ?_
  rintro X ρ ds m' ⟨rfl, hmm, i, hi, hl⟩ hX
  subst hmm
  simp only [List.map_cons, List.map_nil, List.cons.injEq, and_true] at hl
  obtain ⟨h3, h6, h7⟩ := hl
  simp only [h3, h6, h7, cb_lss, pop_some]
  by_cases hc : i < 4
  · have hc' : decide ((i : Int) < 4) = true := by simpa using (by omega : (i : Int) < 4)
    have hix : cindex Try.prog 120 (.agg ⟨[.int .i64 x0, .int .i64 x1, .int .i64 x2, .int .i64 x3]⟩) (.int .i64 i) = some (.int .i64 ([x0, x1, x2, x3].getD i 0)) := by
      have : i = 0 ∨ i = 1 ∨ i = 2 ∨ i = 3 := by omega
      rcases this with rfl | rfl | rfl | rfl
      · exact cix0 ..
      · exact cix1 ..
      · exact cix2 ..
      · exact cix3 ..
    rw [hc', cnd_true, hix, pop_some, cb_mul, pop_some, cb_add, pop_some]
    refine hX _ _ _ ⟨rfl, rfl, i + 1, by omega, ?_⟩ ?_
    · rw [wrap_id (n := (i : Int) + 1) (by omega) (by omega)]; simp [prod4]
    · simp only [List.map_cons, List.map_nil, h7]
      rw [wrap_id (n := (i : Int) + 1) (by omega) (by omega)]; omega
  · have hc' : decide ((i : Int) < 4) = false := by simpa using (by omega : ¬ (i : Int) < 4)
    have : i = 4 := by omega
    subst this
    rw [hc', cnd_false, leave1, RK_ret]
    exact hK _ hle
/-- A truth within its bounds. -/
def TruthOk (l : List Value) : Prop := ∃ a b c d e f, l = [.int .i64 a, .int .i64 b, .int .i64 c, .int .i64 d, .int .i64 e, .int .i64 f] ∧ (1 ≤ a ∧ a ≤ 1000) ∧ (1 ≤ b ∧ b ≤ 300) ∧ -90 ≤ e ∧ e ≤ 90
theorem mul_bounds {a b A B : Int} (ha : 1 ≤ a ∧ a ≤ A) (hb : 1 ≤ b ∧ b ≤ B) : 1 ≤ a * b ∧ a * b ≤ A * B := by
  have h1 : 1 * 1 ≤ a * b := Int.mul_le_mul ha.1 hb.1 (by omega) (by omega)
  have h2 : a * b ≤ A * B := Int.mul_le_mul ha.2 hb.2 (by omega) (by omega)
  omega
theorem rate_pos {a b e : Int} (ha : 1 ≤ a ∧ a ≤ 1000) (hb : 1 ≤ b ∧ b ≤ 300) (he : -90 ≤ e ∧ e ≤ 90) : 1 ≤ prod4 (fun i => [a, b, IntKind.i64.wrap (100 + e), 100].getD i 0) 4 ∧ prod4 (fun i => [a, b, IntKind.i64.wrap (100 + e), 100].getD i 0) 4 ≤ 5700000000 := by
  have hw : IntKind.i64.wrap (100 + e) = 100 + e := wrap_id (by omega) (by omega)
  have h1 := mul_bounds ha hb
  have h2 := mul_bounds h1 (b := 100 + e) (B := 190) ⟨by omega, by omega⟩
  have h3 := mul_bounds h2 (b := 100) (B := 100) ⟨by omega, by omega⟩
  have he4 : prod4 (fun i => [a, b, IntKind.i64.wrap (100 + e), 100].getD i 0) 4 = IntKind.i64.wrap (IntKind.i64.wrap (IntKind.i64.wrap (IntKind.i64.wrap (1 * a) * b) * IntKind.i64.wrap (100 + e)) * 100) := rfl
  rw [he4, hw, Int.one_mul, wrap_id (n := a) (by omega) (by omega), wrap_id (n := a * b) (by omega) (by omega), wrap_id (n := a * b * (100 + e)) (by omega) (by omega), wrap_id (by omega) (by omega)]
  omega
end Go.Proofs.Ytlgkfjgpjggmcaa.W
end

section
open Go Go.Proofs Go.Proofs.Ytlgkfjgpjggmcaa
set_option maxRecDepth 100000
namespace Go.Proofs.Ytlgkfjgpjggmcaa.W
/-- The facts that hold while a shop is looked at: where it lies. -/
structure Look (d : ShopD) (c : CandD) (m : CM) (b : Nat) : Prop where
  own : Own m b (lookC d c) 0
  sh : d.In m
  ok : d.Ok
  co : c.Ok d
theorem Look.le {d : ShopD} {c : CandD} {m m' : CM} {b : Nat} (h : Look d c m b) (k : m.le m') : Look d c m' b := ⟨h.own.le k, h.sh.le k, h.ok, h.co⟩
theorem Look.cells {d : ShopD} {c : CandD} {m : CM} {b : Nat} (h : Look d c m b) : ∃ s w1 w2 w3 w4 w5 w6 w7, lookC d c = [d.vw, d.vx, .int .i64 d.fl, .int .i64 d.fh, .int .i64 d.pl, .int .i64 d.ph, .int .i64 c.wax, .int .i64 c.dia, .int .i64 c.dra, .int .i64 c.lo, .int .i64 c.hi, .string s, .int .i64 w1, .int .i64 w2, .int .i64 w3, .int .i64 w4, .int .i64 w5, .int .i64 w6, .int .i64 w7] ∧
    (1 ≤ w1 ∧ w1 ≤ 300) ∧ (1 ≤ w2 ∧ w2 ≤ 300) := by
  have hx := h.co.wax
  obtain ⟨s, w1, w2, w3, w4, w5, w6, w7, hr, h1, h2, _⟩ := h.ok.wx c.wax.toNat (by omega)
  exact ⟨s, w1, w2, w3, w4, w5, w6, w7, by rw [lookC, hr]; rfl, h1, h2⟩
def BurnV (l : List Value) : Prop := ∃ r f p, l = [.int .i64 r, .int .i64 f, .int .i64 p]
theorem ldi {b : Nat} {l : List Value} {m : CM} {j : Nat} {n : Int} (h : Own m b l 0) (hj : l[j]? = some (.int .i64 n)) : cload Try.prog 3 (.pointer (some ⟨b, j, none⟩)) m = some (.int .i64 n) := h.cel.z ag3 hj

theorem pool71 {d : ShopD} {c : CandD} {m : CM} {b t2 : Nat} (h : Look d c m b) (h2 : Own m t2 [.pointer (some ⟨b, 0, none⟩)] 0) {n : Int} {K : Value → CM → Prop} {Kp : List PanicEntry → CM → Prop} (hK : ∀ x, K (.int .i64 x) m) :
    callw Try.prog 71 [.int .i64 n, .pointer (some ⟨t2, 0, none⟩)] m K Kp := by
  obtain ⟨s, w1, w2, w3, w4, w5, w6, w7, hc, _⟩ := h.cells
  have ho := h.own
  rw [hc] at ho
  apply c71
  unfold s71
  rw [h2.cel.z ag83 rfl, pop_some]
  simp only [cnilc, fz100_1, fa29_1, pop_some, Nat.reduceAdd]
  rw [ldi ho rfl, pop_some, cb_mul, pop_some, cb_mul, pop_some, leave1, RK_ret]
  exact hK _
theorem found72 {d : ShopD} {c : CandD} {m : CM} {b t2 : Nat} (h : Look d c m b) (h2 : Own m t2 [.pointer (some ⟨b, 0, none⟩)] 0) {x y : List Value} (hx : BurnV x) (hy : BurnV y) {K : Value → CM → Prop} {Kp : List PanicEntry → CM → Prop} (hK : ∀ m' b, m.le m' → K (.bool b) m') :
    callw Try.prog 72 [.agg ⟨x⟩, .agg ⟨y⟩, .pointer (some ⟨t2, 0, none⟩)] m K Kp := by
  obtain ⟨s, w1, w2, w3, w4, w5, w6, w7, hc, _⟩ := h.cells
  obtain ⟨a, f, p, rfl⟩ := hx
  obtain ⟨a', f', p', rfl⟩ := hy
  apply c72
  unfold s72
  refine box_of fun q1 m1 hle1 hq1 ho1 => box_of fun q2 m2 hle2 hq2 ho2 => ?_
  have hle := hle1.trans hle2
  have ho := (h.le hle).own
  rw [hc] at ho
  simp only [toL] at ho1 ho2
  replace ho1 := ho1.le hle2
  rw [(h2.le hle).cel.z ag83 rfl]
  simp only [cnilc, fz48_1, fz100_0, fz27_2, fa25_1, pop_some, Nat.reduceAdd]
  rw [ldi ho2 rfl, pop_some, ldi ho rfl, pop_some, cb_mul, pop_some, cb_gtr, pop_some, leave1, RK_ret]
  exact hK _ _ hle
theorem found73 {d : ShopD} {c : CandD} {m : CM} {b t2 : Nat} (h : Look d c m b) (h2 : Own m t2 [.pointer (some ⟨b, 0, none⟩)] 0) {x y : List Value} (hx : BurnV x) (hy : BurnV y) {K : Value → CM → Prop} {Kp : List PanicEntry → CM → Prop} (hK : ∀ m' b, m.le m' → K (.bool b) m') :
    callw Try.prog 73 [.agg ⟨x⟩, .agg ⟨y⟩, .pointer (some ⟨t2, 0, none⟩)] m K Kp := by
  obtain ⟨s, w1, w2, w3, w4, w5, w6, w7, hc, _⟩ := h.cells
  obtain ⟨a, f, p, rfl⟩ := hx
  obtain ⟨a', f', p', rfl⟩ := hy
  apply c73
  unfold s73
  refine box_of fun q1 m1 hle1 hq1 ho1 => box_of fun q2 m2 hle2 hq2 ho2 => ?_
  have hle := hle1.trans hle2
  have ho := (h.le hle).own
  rw [hc] at ho
  simp only [toL] at ho1 ho2
  replace ho1 := ho1.le hle2
  rw [(h2.le hle).cel.z ag83 rfl]
  simp only [cnilc, fz48_1, fz100_0, fz27_2, fa25_0, pop_some, Nat.reduceAdd]
  rw [ldi ho1 rfl, pop_some, ldi ho rfl, pop_some, cb_mul, pop_some, cb_lss, pop_some, leave1, RK_ret]
  exact hK _ _ hle
theorem memJ_last {m m2 : CM} (hle : m.le m2) {E : List Ent} {nx : Nat} (hn : nx = m2.next) (h : ∀ x, (memJ m E (fun _ => true) nx).get x = if m.next ≤ x ∧ x < m.next + (m2.next - m.next) then m2.get x else m.get x) : m.le (memJ m E (fun _ => true) nx) :=
  ⟨by subst hn; exact hle.1, fun x hx => by rw [h, if_neg (by omega)]⟩
theorem found74 {d : ShopD} {c : CandD} {m : CM} {b t2 t5 : Nat} (h : Look d c m b) (h2 : Own m t2 [.pointer (some ⟨b, 0, none⟩)] 0) (h5 : Own m t5 [.func (.func 71) ⟨[]⟩ ⟨[.pointer (some ⟨t2, 0, none⟩)]⟩] 0) {x y : List Value} (hx : BurnV x) (hy : BurnV y) {K : Value → CM → Prop} {Kp : List PanicEntry → CM → Prop} (hK : ∀ m' b, m.le m' → K (.bool b) m') :
    callw Try.prog 74 [.agg ⟨x⟩, .agg ⟨y⟩, .pointer (some ⟨t5, 0, none⟩), .pointer (some ⟨t2, 0, none⟩)] m K Kp := by
  obtain ⟨s, w1, w2, w3, w4, w5, w6, w7, hc, _⟩ := h.cells
  obtain ⟨a, f, p, rfl⟩ := hx
  obtain ⟨a', f', p', rfl⟩ := hy
  apply c74
  unfold s74
  refine box_of fun q1 m1 hle1 hq1 ho1 => box_of fun q2 m2 hle2 hq2 ho2 => ?_
  have hle := hle1.trans hle2
  have ho := (h.le hle).own
  rw [hc] at ho
  simp only [toL] at ho1 ho2
  replace ho1 := ho1.le hle2
  rw [(h2.le hle).cel.z ag83 rfl, (h5.le hle).cel.z ag121 rfl]
  simp only [cnilc, fz48_2, fz100_0, fz27_3, fa25_0, pop_some, Nat.reduceAdd]
  rw [ldi ho1 rfl, pop_some, ldi ho rfl, pop_some]
  show callw Try.prog 71 ([] ++ [_] ++ [.pointer (some ⟨t2, 0, none⟩)]) m2 _ _
  refine pool71 (h.le hle) (h2.le hle) fun x => ⟨CM.le.refl _, ?_⟩
  rw [cb_lss, pop_some, leave1, RK_ret]
  refine hK _ _ (hle.trans (memJ_last (.refl m2) rfl fun x => get_over ..))
theorem found75 {d : ShopD} {c : CandD} {m : CM} {b t2 t5 : Nat} (h : Look d c m b) (h2 : Own m t2 [.pointer (some ⟨b, 0, none⟩)] 0) (h5 : Own m t5 [.func (.func 71) ⟨[]⟩ ⟨[.pointer (some ⟨t2, 0, none⟩)]⟩] 0) {x y : List Value} (hx : BurnV x) (hy : BurnV y) {K : Value → CM → Prop} {Kp : List PanicEntry → CM → Prop} (hK : ∀ m' b, m.le m' → K (.bool b) m') :
    callw Try.prog 75 [.agg ⟨x⟩, .agg ⟨y⟩, .pointer (some ⟨t5, 0, none⟩), .pointer (some ⟨t2, 0, none⟩)] m K Kp := by
  obtain ⟨s, w1, w2, w3, w4, w5, w6, w7, hc, _⟩ := h.cells
  obtain ⟨a, f, p, rfl⟩ := hx
  obtain ⟨a', f', p', rfl⟩ := hy
  apply c75
  unfold s75
  refine box_of fun q1 m1 hle1 hq1 ho1 => box_of fun q2 m2 hle2 hq2 ho2 => ?_
  have hle := hle1.trans hle2
  have ho := (h.le hle).own
  rw [hc] at ho
  simp only [toL] at ho1 ho2
  replace ho1 := ho1.le hle2
  rw [(h2.le hle).cel.z ag83 rfl, (h5.le hle).cel.z ag121 rfl]
  simp only [cnilc, fz48_2, fz100_0, fz27_3, fa25_1, pop_some, Nat.reduceAdd]
  rw [ldi ho2 rfl, pop_some, ldi ho rfl, pop_some]
  show callw Try.prog 71 ([] ++ [_] ++ [.pointer (some ⟨t2, 0, none⟩)]) m2 _ _
  refine pool71 (h.le hle) (h2.le hle) fun x => ⟨CM.le.refl _, ?_⟩
  rw [cb_gtr, pop_some, leave1, RK_ret]
  refine hK _ _ (hle.trans (memJ_last (.refl m2) rfl fun x => get_over ..))
end Go.Proofs.Ytlgkfjgpjggmcaa.W
end

section
open Go Go.Proofs Go.Proofs.Ytlgkfjgpjggmcaa
set_option maxRecDepth 100000
namespace Go.Proofs.Ytlgkfjgpjggmcaa.W
theorem lstw_own {P : Program} {t : TypeId} {M : CM} {b o e : Nat} {c : List Value} {v : Value} {K : Nat → CB → Prop} (hg : M.get b = some (.cells c e true)) (hs : szOf P t = some (toL v).length) (ho : o + (toL v).length ≤ c.length) (h1 : (toL v).all one = true) (hK : K b (.cells (splice c o (toL v)) e true)) :
    lstw (cstore P t (.pointer (some ⟨b, o, none⟩)) v M) (.pointer (some ⟨b, o, none⟩)) K := by
  refine ⟨M.put b (.cells (splice c o (toL v)) e true), b, o, _, ?_, rfl, by rw [CM.get_put, if_pos rfl], hK⟩
  simp [cstore, hs, cstoreL, hg, ho]; simpa using h1
theorem memL1 {m : CM} {E : List Ent} {j b nx : Nat} {x y : CB} {sel : Nat → Bool} (hs : sel j = true) (hg : (memJ m E sel nx).get b = some y) : memL m E [(j, b, x)] sel nx = (memJ m E sel nx).put b x := by
  simp only [memL, layW, lay1, hs, hg]
theorem memL2 {m : CM} {E : List Ent} {j k b c nx : Nat} {x y z u : CB} {sel : Nat → Bool} (hs : sel j = true) (hk : sel k = true) (hg : (memJ m E sel nx).get b = some y) (hc : (memJ m E sel nx).get c = some z) (hne : c ≠ b) : memL m E [(j, b, x), (k, c, u)] sel nx = ((memJ m E sel nx).put b x).put c u := by
  have h2 : ((memJ m E sel nx).put b x).get c = some z := by rw [CM.get_put, if_neg hne]; exact hc
  simp only [memL, layW, lay1, hs, hk, hg, h2]
theorem store_own {P : Program} {t : TypeId} {m : CM} {b e : Nat} {c : List Value} {v : Value} {K : Value → CM → Prop} (h : Own m b c e) (hs : szOf P t = some (toL v).length) (hl : (toL v).length = c.length) (h1 : (toL v).all one = true)
    (hk : ∀ m', m'.next = m.next → (∀ x, x ≠ b → m'.get x = m.get x) → Own m' b (toL v) e → K undef m') : sop (cstore P t (.pointer (some ⟨b, 0, none⟩)) v m) K := by
  refine h.store hs (by omega) h1 fun m' hn hx ho => ?_
  rw [splice_all hl] at ho
  exact hk m' hn hx ho
theorem lda {P : Program} {t : TypeId} {b : Nat} {l : List Value} {m : CM} (h : Own m b l 0) (ha : aggB P t = some true) (hs : szOf P t = some l.length) : cload P t (.pointer (some ⟨b, 0, none⟩)) m = some (.agg ⟨l⟩) := by
  have := h.cel.za ha hs (j := 0) (by omega)
  simpa using this
set_option maxHeartbeats 1000000 in
theorem truths45 {d : ShopD} {c : CandD} {m : CM} {b : Nat} (h : Look d c m b) {w : Int} (hw : 0 ≤ w ∧ w < d.nw) {K : Value → CM → Prop} {Kp : List PanicEntry → CM → Prop} (hK : ∀ m' l l', m.le m' → TruthOk l → TruthOk l' → K (.tuple ⟨[.agg ⟨l⟩, .agg ⟨l'⟩]⟩) m') :
    callw Try.prog 45 [.pointer (some ⟨b, 0, none⟩), .int .i64 w] m K Kp := by
  obtain ⟨s, w1, w2, w3, w4, w5, w6, w7, hc, hw1, hw2⟩ := h.cells
  have hdra := h.co.dra
  apply c45
  unfold s45
  refine alw_of ze31 fun b4 m1 hle1 hb4 ho4 => alw_of ze31 fun b5 m2 hle2 hb5 ho5 => ?_
  have hne45 : b4 ≠ b5 := by have := ho4.1; omega
  replace ho4 := ho4.le hle2
  have hle := hle1.trans hle2
  have hlk := h.le hle
  have ho := hlk.own
  rw [hc] at ho
  obtain ⟨sw, th, plo, phi, hrow, hth, hplo, hphi, hpp⟩ := h.ok.wk w.toNat (by omega)
  obtain ⟨bw, ow, hia, hcel, hlen⟩ := hlk.sh.sw.at Try.underlying22 sz76 (i := w) hw.1 (by omega)
  rw [hrow] at hcel
  simp only [cnilc, fz100_0, fz100_1, fz100_2, fz27_0, fz29_2, fa29_2, fz29_3, fa29_3, fa25_0, fa25_1, pop_some, Nat.reduceAdd]
  rw [ho.cel.z ag22 (j := 0) rfl, pop_some, hia, pop_some, fa76_2, pop_some, show cload Try.prog 25 (.pointer (some ⟨bw, ow + 2, none⟩)) m2 = some (.agg ⟨[.int .i64 plo, .int .i64 phi]⟩) from hcel.a ag25 sz25 (j := 2) (by simp), pop_some]
  rw [show cload Try.prog 80 (.pointer (some ⟨b, 11, none⟩)) m2 = some (.agg ⟨[.string s, .int .i64 w1, .int .i64 w2, .int .i64 w3, .int .i64 w4, .int .i64 w5, .int .i64 w6, .int .i64 w7]⟩) from ho.cel.za ag80 sz80 (j := 11) (by simp), pop_some, ldi ho rfl, pop_some]
  have hb4l : b4 < m2.next := ho4.1
  have hb5l : b5 < m2.next := ho5.1
  refine alw_of ze25 fun b6 m3 hle3 hb6 ho6 => ⟨hle3, ?_⟩
  refine alw_of ze80 fun b7 m4 hle4 hb7 ho7 => ⟨hle4, ?_⟩
  have hn3 : m2.next ≤ m3.next := hle3.1
  have hn4 : m3.next ≤ m4.next := hle4.1
  have hb7' : m3.next ≤ b7 := hb7
  have h61 := ho6.1
  have h71 := ho7.1
  -- what lies there
  have J : ∀ (E : List Ent) (sel : Nat → Bool), (memJ m2 E sel m4.next).t = ((m2.over m2.next (m3.next - m2.next) m3).over m3.next (m4.next - m3.next) m4).t → ∀ x, (memJ m2 E sel m4.next).get x =
      if m3.next ≤ x ∧ x < m3.next + (m4.next - m3.next) then m4.get x else if m2.next ≤ x ∧ x < m2.next + (m3.next - m2.next) then m3.get x else m2.get x := by
    intro E sel hE x
    have : (memJ m2 E sel m4.next).get x = CM.get ((m2.over m2.next (m3.next - m2.next) m3).over m3.next (m4.next - m3.next) m4) x := by
      simp only [CM.get, hE]
    rw [this, get_over, get_over]
  have J6 : ∀ (E : List Ent) (sel : Nat → Bool), (memJ m2 E sel m4.next).t = ((m2.over m2.next (m3.next - m2.next) m3).over m3.next (m4.next - m3.next) m4).t → (memJ m2 E sel m4.next).get b6 = some (.cells [.int .i64 0, .int .i64 0] 0 true) := fun E sel hE => by
    rw [J E sel hE, if_neg (by omega), if_pos (by omega)]; exact ho6.2
  have J7 : ∀ (E : List Ent) (sel : Nat → Bool), (memJ m2 E sel m4.next).t = ((m2.over m2.next (m3.next - m2.next) m3).over m3.next (m4.next - m3.next) m4).t → (memJ m2 E sel m4.next).get b7 = some (.cells [.string ⟨#[]⟩, .int .i64 0, .int .i64 0, .int .i64 0, .int .i64 0, .int .i64 0, .int .i64 0, .int .i64 0] 0 true) := fun E sel hE => by
    rw [J E sel hE, if_pos (by omega)]; exact ho7.2
  refine lstw_own (J6 _ _ rfl) (by simp [toL, sz25]) (by simp [toL]) (by simp [toL, one]) ?_
  refine ⟨⟨_, rfl, hb6, h61⟩, (by simp), ?_⟩
  rw [memL1 (sel := fun i => Nat.testBit 1843199 i) rfl (J6 _ _ rfl)]
  refine lstw_own (by rw [CM.get_put, if_neg (by omega)]; exact J7 _ _ rfl) (by simp [toL, sz80]) (by simp [toL]) (by simp [toL, one]) ?_
  refine ⟨⟨_, rfl, hb7, h71⟩, (by simp; omega), ?_⟩
  generalize hML : memL m2 _ [(20, b6, _), (21, b7, _)] (fun _ => true) m4.next = ML
  rw [memL2 rfl rfl (J6 _ _ rfl) (J7 _ _ rfl) (by omega)] at hML
  have hMLn : ML.next = m4.next := by subst hML; rfl
  have hMLg : ∀ x, x < m2.next → ML.get x = m2.get x := by
    intro x hx
    subst hML
    rw [CM.get_put, if_neg (by omega), CM.get_put, if_neg (by omega), J _ _ rfl, if_neg (by omega), if_neg (by omega)]
  have hML6 : Own ML b6 [.int .i64 plo, .int .i64 phi] 0 := ⟨by omega, by subst hML; rw [CM.get_put, if_neg (by omega), CM.get_put, if_pos rfl]; rfl⟩
  have hML7 : Own ML b7 [.string s, .int .i64 w1, .int .i64 w2, .int .i64 w3, .int .i64 w4, .int .i64 w5, .int .i64 w6, .int .i64 w7] 0 := ⟨by omega, by subst hML; rw [CM.get_put, if_pos rfl]; rfl⟩
  have hleM : m2.le ML := ⟨by omega, hMLg⟩
  clear J J6 J7 hML
  replace ho := ho.le hleM
  replace ho4 := ho4.le hleM
  replace ho5 := ho5.le hleM
  replace hle := hle.trans hleM
  simp only [fz25_0, fz25_1, fz80_1, fz80_2, fz80_3, fa25_0, fa25_1, pop_some, Nat.reduceAdd]
  rw [ldi hML6 rfl, pop_some, ldi hML7 rfl, pop_some, ldi hML7 rfl, pop_some, ldi hML7 rfl, pop_some, cun_neg, pop_some, ldi ho rfl, pop_some]
  have hb1 : ∀ a b c d e f : Int, cbuild Try.prog 31 [(0, .int .i64 a), (1, .int .i64 b), (2, .int .i64 c), (3, .int .i64 d), (4, .int .i64 e), (5, .int .i64 f)] = some (.agg ⟨[.int .i64 a, .int .i64 b, .int .i64 c, .int .i64 d, .int .i64 e, .int .i64 f]⟩) := fun a b c d e f => by kernel_rfl
  have hall : ∀ a b c d e f : Int, (toL (.agg ⟨[.int .i64 a, .int .i64 b, .int .i64 c, .int .i64 d, .int .i64 e, .int .i64 f]⟩)).all one = true := fun _ _ _ _ _ _ => rfl
  rw [hb1, pop_some]
  have hwn : IntKind.i64.wrap (-c.dra) = -c.dra := wrap_id (by omega) (by omega)
  refine store_own ho4 (by simp [toL, sz31]) (by simp [toL]) (hall ..) fun mA hnA hxA hoA => ?_
  simp only [toL] at hoA
  replace hML6 := Own.keep hML6 hnA hxA (by omega)
  replace hML7 := Own.keep hML7 hnA hxA (by omega)
  have hbb4 : b ≠ b4 := by have := h.own.1; have := hle1.1; omega
  have hbb5 : b ≠ b5 := by have := h.own.1; have := hle1.1; omega
  replace ho := Own.keep ho hnA hxA hbb4
  replace ho5 := Own.keep ho5 hnA hxA hne45.symm
  replace hle := le_of_put hle (by omega) hnA hxA
  rw [ldi hML6 rfl, pop_some, ldi hML7 rfl, pop_some, ldi hML7 rfl, pop_some, ldi hML7 rfl, pop_some, ldi ho rfl, pop_some, hb1, pop_some]
  refine store_own ho5 (by simp [toL, sz31]) (by simp [toL]) (hall ..) fun mB hnB hxB hoB => ?_
  simp only [toL] at hoB
  replace hoA := Own.keep hoA hnB hxB hne45
  replace hle := le_of_put hle (by have := hle1.1; omega) hnB hxB
  rw [lda hoA ag31 sz31, pop_some, lda hoB ag31 sz31, pop_some]
  refine store_own hoA (by simp [toL, sz31]) (by simp [toL]) (hall ..) fun mC hnC hxC hoC => ⟨⟨hnC, fun x => ?_⟩, ?_⟩
  · by_cases e : x = b4
    · subst e; rw [hoC.2, hoA.2]; rfl
    · exact hxC x e
  refine store_own hoB (by simp [toL, sz31]) (by simp [toL]) (hall ..) fun mD hnD hxD hoD => ?_
  simp only [toL] at hoD
  replace hoA := Own.keep hoA hnD hxD hne45
  replace hle := le_of_put hle (by have := hle1.1; omega) hnD hxD
  show pop (cload Try.prog 31 (.pointer (some ⟨b4, 0, none⟩)) mD) mD _
  rw [lda hoA ag31 sz31, pop_some]
  show pop (cload Try.prog 31 (.pointer (some ⟨b5, 0, none⟩)) mD) mD _
  rw [lda hoD ag31 sz31, pop_some]
  show RK K Kp (.ret (.tuple ⟨[_, _]⟩)) mD
  rw [RK_ret, hwn]
  exact hK _ _ _ hle ⟨_, _, _, _, _, _, rfl, hplo, hw1, by omega, by omega⟩ ⟨_, _, _, _, _, _, rfl, hphi, hw2, by omega, by omega⟩
end Go.Proofs.Ytlgkfjgpjggmcaa.W
end

section
namespace Go.Proofs.Ytlgkfjgpjggmcaa
open Go
section
variable {P : Program}
theorem pureRun_bind {α β : Type} (x : Sem α) (f : α → Sem β) : pureRun P (x >>= f) = (pureRun P x).bind fun a => pureRun P (f a) := by
  show pureRun P (Sem.bind x f) = _
  induction x with
  | pure a => simp [Sem.bind, pureRun]
  | program k ih => simp only [Sem.bind, pureRun]; exact ih _
  | mark a k ih => simp only [Sem.bind, pureRun]; exact ih
  | choose q k ih =>
    simp only [Sem.bind, pureRun]
    split
    · exact ih _
    · rfl
  | _ => simp [Sem.bind, pureRun]
theorem pureRun_pure {α : Type} (a : α) : pureRun P (pure a) = some a := rfl
def PrT {α : Type} (P : Program) (x : Sem α) : Prop := ∃ a, pureRun P x = some a
theorem PrT.bind {α β : Type} {x : Sem α} {f : α → Sem β} (hx : PrT P x) (hf : ∀ a, pureRun P x = some a → PrT P (f a)) : PrT P (x >>= f) := by
  obtain ⟨a, ha⟩ := hx
  obtain ⟨b, hb⟩ := hf a ha
  exact ⟨b, by rw [pureRun_bind, ha]; exact hb⟩
theorem PrT.pure {α : Type} (a : α) : PrT P (pure a) := ⟨a, rfl⟩
theorem PrT.forIn {α β : Type} (f : α → β → Sem (ForInStep β)) : ∀ (l : List α) (b : β), (∀ a ∈ l, ∀ b, PrT P (f a b)) → PrT P (forIn l b f)
  | [], b, _ => by rw [List.forIn_nil]; exact PrT.pure b
  | a :: l, b, h => by
    rw [List.forIn_cons]
    refine PrT.bind (h a (by simp) b) fun s _ => ?_
    cases s with
    | done b => exact PrT.pure b
    | yield b => exact PrT.forIn f l b fun x hx => h x (by simp [hx])
theorem pr_program : pureRun P program = some P := rfl
theorem pr_underlying {t : TypeId} {d : TypeDesc} (un : P.underlying t = some d) : pureRun P (underlying t) = some d := by
  unfold underlying
  rw [pureRun_bind, pr_program, Option.bind_some, un]; rfl
theorem PrT.equal_int {t : TypeId} {k : IntKind} (un : P.underlying t = some (.int k)) (d : Nat) (a b : Int) : PrT P (Op.equalIn (d + 1) t (.int k a) (.int k b)) := by
  unfold Op.equalIn
  refine PrT.bind ⟨_, pr_underlying un⟩ fun dd hd => ?_
  rw [pr_underlying un] at hd; cases hd
  simp only [if_true]
  exact PrT.pure _
theorem PrT.equal_bool {t : TypeId} (un : P.underlying t = some .bool) (d : Nat) (a b : Bool) : PrT P (Op.equalIn (d + 1) t (.bool a) (.bool b)) := by
  unfold Op.equalIn
  refine PrT.bind ⟨_, pr_underlying un⟩ fun dd hd => ?_
  rw [pr_underlying un] at hd; cases hd
  exact PrT.pure _
theorem PrT.equal_str {t : TypeId} (un : P.underlying t = some .string) (d : Nat) (a b : ByteArray) : PrT P (Op.equalIn (d + 1) t (.string a) (.string b)) := by
  unfold Op.equalIn
  refine PrT.bind ⟨_, pr_underlying un⟩ fun dd hd => ?_
  rw [pr_underlying un] at hd; cases hd
  exact PrT.pure _
theorem PrT.equal_struct {t : TypeId} {fs : Array Field} (un : P.underlying t = some (.struct fs)) (hst : P.stoodInHeld t = false) (d : Nat) (xs ys : Array Value)
    (h : ∀ f ∈ fs.toList, ∃ u v, pureRun P (part f.type xs f.offset) = some u ∧ pureRun P (part f.type ys f.offset) = some v ∧ PrT P (Op.equalIn d f.type u v)) : PrT P (Op.equalIn (d + 1) t (.agg xs) (.agg ys)) := by
  unfold Op.equalIn
  refine PrT.bind ⟨_, pr_underlying un⟩ fun dd hd => ?_
  rw [pr_underlying un] at hd; cases hd
  refine PrT.bind ⟨_, pr_program⟩ fun pp hp => ?_
  rw [pr_program] at hp; cases hp
  rw [hst]
  simp only [Bool.false_eq_true, if_false]
  rw [← Array.forIn_toList]
  refine PrT.bind (PrT.forIn _ _ _ fun f hf b => ?_) fun r _ => ?_
  · obtain ⟨u, v, hu, hv, he⟩ := h f hf
    split
    · refine PrT.bind ⟨u, hu⟩ fun u' hu' => ?_
      rw [hu] at hu'; cases hu'
      refine PrT.bind ⟨v, hv⟩ fun v' hv' => ?_
      rw [hv] at hv'; cases hv'
      refine PrT.bind he fun b' _ => ?_
      split <;> exact PrT.pure _
    · exact PrT.pure _
  · split <;> exact PrT.pure _
/-- Two structs can be held against each other. -/
theorem eq_total {t : TypeId} {x y : Operand} {l l' : List Value} (hg : P.eqGuardType P.depth t = false) (hl : plainL l = true) (hl' : plainL l' = true) (h : PrT P (Op.equalIn (9999 + 1) t (.agg ⟨l⟩) (.agg ⟨l'⟩))) : ∃ b, cbin P .eql t x y (.agg ⟨l⟩) (.agg ⟨l'⟩) = some (.bool b) := by
  obtain ⟨b, hb⟩ := h
  refine ⟨b, ?_⟩
  unfold cbin
  rw [if_pos (by simp [plainV, hl, hl'])]
  rw [pureRun_bind]
  have h1 : pureRun P (eqGuard .eql t x y (.agg ⟨l⟩) (.agg ⟨l'⟩)) = some () := by
    unfold eqGuard
    simp only [pureRun_bind, pr_program]
    simp [pureRun_bind, pr_program, hg]
    rfl
  rw [h1, Option.bind_some]
  have h2 : pureRun P (binOp .eql t (.agg ⟨l⟩) (.agg ⟨l'⟩)) = some (.bool b) := by
    have he : pureRun P (Op.equal t (.agg ⟨l⟩) (.agg ⟨l'⟩)) = some b := hb
    unfold binOp
    rw [pureRun_bind, he]; rfl
  rw [h2]; rfl
end
end Go.Proofs.Ytlgkfjgpjggmcaa
end

section
open Go Go.Proofs Go.Proofs.Ytlgkfjgpjggmcaa
set_option maxRecDepth 100000
namespace Go.Proofs.Ytlgkfjgpjggmcaa.W
theorem eq31 (a b c d e f a' b' c' d' e' f' : Int) : ∃ t, cbin Try.prog BinOp.eql 31 (Operand.tmp 17) (Operand.tmp 18) (.agg ⟨[.int .i64 a, .int .i64 b, .int .i64 c, .int .i64 d, .int .i64 e, .int .i64 f]⟩) (.agg ⟨[.int .i64 a', .int .i64 b', .int .i64 c', .int .i64 d', .int .i64 e', .int .i64 f']⟩) = some (.bool t) := by
  refine eq_total (by kernel_rfl) rfl rfl (PrT.equal_struct Try.underlying31 (by kernel_rfl) _ _ _ fun fd hf => ?_)
  simp only [List.mem_cons, List.not_mem_nil, or_false] at hf
  rcases hf with rfl | rfl | rfl | rfl | rfl | rfl
  · exact ⟨.int .i64 a, .int .i64 a', by kernel_rfl, by kernel_rfl, PrT.equal_int Try.underlying3 _ _ _⟩
  · exact ⟨.int .i64 b, .int .i64 b', by kernel_rfl, by kernel_rfl, PrT.equal_int Try.underlying3 _ _ _⟩
  · exact ⟨.int .i64 c, .int .i64 c', by kernel_rfl, by kernel_rfl, PrT.equal_int Try.underlying3 _ _ _⟩
  · exact ⟨.int .i64 d, .int .i64 d', by kernel_rfl, by kernel_rfl, PrT.equal_int Try.underlying3 _ _ _⟩
  · exact ⟨.int .i64 e, .int .i64 e', by kernel_rfl, by kernel_rfl, PrT.equal_int Try.underlying3 _ _ _⟩
  · exact ⟨.int .i64 f, .int .i64 f', by kernel_rfl, by kernel_rfl, PrT.equal_int Try.underlying3 _ _ _⟩

theorem Own.of {m : CM} {M : CM} {b e : Nat} {l : List Value} (h : Own m b l e) (ht : M.t = m.t) (hn : m.next ≤ M.next) : Own M b l e := ⟨Nat.lt_of_lt_of_le h.1 hn, by unfold CM.get; rw [ht]; exact h.2⟩
set_option maxHeartbeats 1000000 in
/-- burn. -/
theorem burn46 {d : ShopD} {c : CandD} {m : CM} {b : Nat} (h : Look d c m b) {t1 t2 t3 t4 t5 t6 : Int} {K : Value → CM → Prop} {Kp : List PanicEntry → CM → Prop}
    (hK : ∀ m' r f p, m.le m' → r = prod4 (fun i => [t1, t2, IntKind.i64.wrap (100 + t5), 100].getD i 0) 4 → K (.agg ⟨[.int .i64 r, .int .i64 f, .int .i64 p]⟩) m') :
    callw Try.prog 46 [.pointer (some ⟨b, 0, none⟩), .agg ⟨[.int .i64 t1, .int .i64 t2, .int .i64 t3, .int .i64 t4, .int .i64 t5, .int .i64 t6]⟩] m K Kp := by
  obtain ⟨s, w1, w2, w3, w4, w5, w6, w7, hc, _⟩ := h.cells
  apply c46
  unfold s46 j46_0
  refine box_of fun b3 m1 hle1 hb3 ho3 => alw_of ze48 fun b4 m2 hle2 hb4 ho4 => alw_of ze48 fun b5 m3 hle3 hb5 ho5 => ?_
  simp only [toL] at ho3
  have hb45 : b4 ≠ b5 := by have := ho4.1; omega
  have hb35 : b3 ≠ b5 := by have := ho3.1; have := hle2.1; omega
  have hbb5 : b ≠ b5 := by have := h.own.1; have := hle1.1; have := hle2.1; omega
  have hbb4 : b ≠ b4 := by have := h.own.1; have := hle1.1; omega
  have h5m : m.next ≤ b5 := by have := hle1.1; have := hle2.1; omega
  have h4m : m.next ≤ b4 := by have := hle1.1; omega
  replace ho3 := (ho3.le hle2).le hle3
  replace ho4 := ho4.le hle3
  have hle := (hle1.trans hle2).trans hle3
  have ho := (h.le hle).own
  rw [hc] at ho
  simp only [fz31_2, fz31_3, pop_some]
  rw [ldi ho3 rfl, pop_some, ldi ho3 rfl, pop_some]
  refine lit_of Try.underlying34 (e := 0) sz3 ze3 rfl (by decide) (c := [.int .i64 100, .int .i64 t3, .int .i64 t4]) rfl fun b13 m4 hle4 hb13 ho13 => ?_
  have hb135 : b13 ≠ b5 := by have := ho5.1; omega
  replace ho3 := ho3.le hle4
  replace ho4 := ho4.le hle4
  replace ho5 := ho5.le hle4
  replace ho := ho.le hle4
  replace hle := hle.trans hle4
  have hsl : ∀ m', Own m' b13 [.int .i64 100, .int .i64 t3, .int .i64 t4] 1 → Sl 1 m' (.slice (some ⟨b13, 0, none⟩) 3 0) 3 (fun i => [.int .i64 ([100, t3, t4].getD i 0)]) := fun m' ho => sl_ints (xs := [100, t3, t4]) ho rfl
  rw [(hsl _ ho13).len Try.underlying34, pop_some]
  let R0 := prod4 (fun i => [t1, t2, IntKind.i64.wrap (100 + t5), 100].getD i 0) 4
  refine loopA_of (fun l ds m' => ds = [] ∧ m.le m' ∧ Own m' b3 [.int .i64 t1, .int .i64 t2, .int .i64 t3, .int .i64 t4, .int .i64 t5, .int .i64 t6] 0 ∧ Own m' b4 [.int .i64 0, .int .i64 0, .int .i64 0] 0 ∧ Own m' b13 [.int .i64 100, .int .i64 t3, .int .i64 t4] 1 ∧ Own m' b [d.vw, d.vx, .int .i64 d.fl, .int .i64 d.fh, .int .i64 d.pl, .int .i64 d.ph, .int .i64 c.wax, .int .i64 c.dia, .int .i64 c.dra, .int .i64 c.lo, .int .i64 c.hi, .string s, .int .i64 w1, .int .i64 w2, .int .i64 w3, .int .i64 w4, .int .i64 w5, .int .i64 w6, .int .i64 w7] 0 ∧
      ∃ i : Nat, i ≤ 3 ∧ (∃ r f p : Int, Own m' b5 [.int .i64 r, .int .i64 f, .int .i64 p] 0 ∧ (1 ≤ i → r = R0)) ∧ l = [.pointer (some ⟨b, 0, none⟩), .pointer (some ⟨b3, 0, none⟩), .pointer (some ⟨b4, 0, none⟩), .pointer (some ⟨b5, 0, none⟩), .slice (some ⟨b13, 0, none⟩) 3 0, .int .i64 3, .int .i64 i])
    (fun l _ => match l with | [_, _, _, _, _, _, .int _ i] => 3 - i.toNat | _ => 0) ⟨rfl, hle, ho3, ho4, ho13, ho, 0, by omega, ⟨_, _, _, ho5, fun h => by omega⟩, rfl⟩ ?_
  clear ho3 ho4 ho13 ho hle ho5
  rintro X ρ ds m' ⟨rfl, hle, ho3, ho4, ho13, ho, i, hi, ⟨r, f, p, ho5, hr⟩, hl⟩ hX
  simp only [List.map_cons, List.map_nil, List.cons.injEq, and_true] at hl
  obtain ⟨q0, q3, q4, q5, q13, q14, q15⟩ := hl
  simp only [q0, q3, q4, q5, q13, q14, q15, cb_lss, pop_some, fz31_0, fz31_1, fz31_4, fz31_5, fz48_0, fz48_1, fz48_2]
  by_cases hc3 : i < 3
  · have hc' : decide ((i : Int) < 3) = true := by simpa using (by omega : (i : Int) < 3)
    obtain ⟨bx, ox, hia, hcel, _⟩ := (hsl _ ho13).at Try.underlying34 sz3 (i := i) (by omega) (by omega)
    have hlx : cload Try.prog 3 (.pointer (some ⟨bx, ox, none⟩)) m' = some (.int .i64 ([100, t3, t4].getD i 0)) := by
      have := hcel.s (j := 0) ag3 rfl
      simpa using this
    have hbd : ∀ x0 x1 x2 x3 : Int, cbuild Try.prog 120 [(0, .int .i64 x0), (1, .int .i64 x1), (2, .int .i64 x2), (3, .int .i64 x3)] = some (.agg ⟨[.int .i64 x0, .int .i64 x1, .int .i64 x2, .int .i64 x3]⟩) := fun x0 x1 x2 x3 => by kernel_rfl
    rw [hc', cnd_true, hia, pop_some, hlx, pop_some, ldi ho3 rfl, pop_some, ldi ho3 rfl, pop_some, ldi ho3 rfl, pop_some, cb_add, pop_some, hbd, pop_some, cb_eql, pop_some]
    have go : ∀ m2 r f p, m.le m2 → Own m2 b3 [.int .i64 t1, .int .i64 t2, .int .i64 t3, .int .i64 t4, .int .i64 t5, .int .i64 t6] 0 → Own m2 b4 [.int .i64 0, .int .i64 0, .int .i64 0] 0 → Own m2 b13 [.int .i64 100, .int .i64 t3, .int .i64 t4] 1 → Own m2 b [d.vw, d.vx, .int .i64 d.fl, .int .i64 d.fh, .int .i64 d.pl, .int .i64 d.ph, .int .i64 c.wax, .int .i64 c.dia, .int .i64 c.dra, .int .i64 c.lo, .int .i64 c.hi, .string s, .int .i64 w1, .int .i64 w2, .int .i64 w3, .int .i64 w4, .int .i64 w5, .int .i64 w6, .int .i64 w7] 0 →
        Own m2 b5 [.int .i64 r, .int .i64 f, .int .i64 p] 0 → (1 ≤ i + 1 → r = R0) →
        pop (cbin Try.prog BinOp.add 3 (Operand.tmp 15) (Operand.const (Value.int IntKind.i64 1)) (.int .i64 i) (.int .i64 1)) m2 (fun t57 m => X [.pointer (some ⟨b, 0, none⟩), .pointer (some ⟨b3, 0, none⟩), .pointer (some ⟨b4, 0, none⟩), .pointer (some ⟨b5, 0, none⟩), .slice (some ⟨b13, 0, none⟩) 3 0, .int .i64 3, t57] [] m) := by
      intro m2 r f p g1 g2 g3 g4 g5 g6 g7
      rw [cb_add, pop_some, wrap_id (n := (i : Int) + 1) (by omega) (by omega)]
      refine hX _ _ _ ⟨rfl, g1, g2, g3, g4, g5, i + 1, by omega, ⟨r, f, p, g6, g7⟩, by simp⟩ ?_
      simp only [List.map_cons, List.map_nil, q15]; omega
    have hi3 : i = 0 ∨ i = 1 ∨ i = 2 := by omega
    have hsz1 : ∀ x : Int, szOf Try.prog 3 = some (toL (.int .i64 x)).length := fun x => sz3
    rcases hi3 with rfl | rfl | rfl
    · rw [show (((0 : Nat) : Int) == 0) = true from rfl, cnd_true]
      show callw Try.prog 70 ([.agg ⟨_⟩] ++ [] ++ []) m' _ _
      refine product70 fun m5 hle5 => ?_
      refine (ho5.le hle5).store (o := 0) (hsz1 _) (by simp [toL]) (one_int _) fun m6 hn6 hx6 ho6 => ?_
      exact go m6 _ f p (le_of_put (hle.trans hle5) h5m hn6 hx6) (Own.keep (ho3.le hle5) hn6 hx6 hb35) (Own.keep (ho4.le hle5) hn6 hx6 hb45) (Own.keep (ho13.le hle5) hn6 hx6 hb135) (Own.keep (ho.le hle5) hn6 hx6 hbb5) ho6 fun _ => rfl
    · rw [show (((1 : Nat) : Int) == 0) = false from rfl, cnd_false, cb_eql, pop_some, show (((1 : Nat) : Int) == 1) = true from rfl, cnd_true]
      show callw Try.prog 70 ([.agg ⟨_⟩] ++ [] ++ []) m' _ _
      refine product70 fun m5 hle5 => ?_
      refine (ho5.le hle5).store (o := 1) (hsz1 _) (by simp [toL]) (one_int _) fun m6 hn6 hx6 ho6 => ?_
      exact go m6 r _ p (le_of_put (hle.trans hle5) h5m hn6 hx6) (Own.keep (ho3.le hle5) hn6 hx6 hb35) (Own.keep (ho4.le hle5) hn6 hx6 hb45) (Own.keep (ho13.le hle5) hn6 hx6 hb135) (Own.keep (ho.le hle5) hn6 hx6 hbb5) ho6 fun _ => hr (by omega)
    · rw [show (((2 : Nat) : Int) == 0) = false from rfl, cnd_false, cb_eql, pop_some, show (((2 : Nat) : Int) == 1) = false from rfl, cnd_false, cb_eql, pop_some, show (((2 : Nat) : Int) == 2) = true from rfl, cnd_true]
      show callw Try.prog 70 ([.agg ⟨_⟩] ++ [] ++ []) m' _ _
      refine product70 fun m5 hle5 => ⟨hle5, ?_⟩
      have hn5 := hle5.1
      rw [ldi (Own.of ho3 (M := memJ m' _ (fun i => Nat.testBit 4 i) m5.next) rfl hn5) rfl, pop_some]
      simp only [cnilc, pop_some, fz100_2, fa80_4, Nat.reduceAdd]
      rw [ldi (Own.of ho (M := memJ m' _ (fun i => Nat.testBit 240 i) m5.next) rfl hn5) rfl, pop_some, cb_mul, pop_some, cb_mul, pop_some, cb_quo (by decide), pop_some, cb_sub, pop_some]
      generalize hJ : memJ m' _ (fun _ => true) m5.next = mJ
      have hleJ : m'.le mJ := by
        subst hJ
        exact memJ_last hle5 rfl fun x => get_over ..
      refine (ho5.le hleJ).store (o := 2) (hsz1 _) (by simp [toL]) (one_int _) fun m6 hn6 hx6 ho6 => ?_
      exact go m6 r f _ (le_of_put (hle.trans hleJ) h5m hn6 hx6) (Own.keep (ho3.le hleJ) hn6 hx6 hb35) (Own.keep (ho4.le hleJ) hn6 hx6 hb45) (Own.keep (ho13.le hleJ) hn6 hx6 hb135) (Own.keep (ho.le hleJ) hn6 hx6 hbb5) ho6 fun _ => hr (by omega)
  · have hc' : decide ((i : Int) < 3) = false := by simpa using (by omega : ¬ (i : Int) < 3)
    rw [hc', cnd_false, lda ho5 ag48 sz48, pop_some]
    refine store_own ho4 (by simp [toL, sz48]) (by simp [toL]) rfl fun m6 hn6 hx6 ho6 => ?_
    show pop (cload Try.prog 48 (.pointer (some ⟨b4, 0, none⟩)) m6) m6 _
    rw [lda ho6 ag48 (by simp [toL, sz48]), pop_some]
    show RK K Kp (.ret (.agg ⟨_⟩)) m6
    rw [RK_ret]
    exact hK _ _ _ _ (le_of_put hle h4m hn6 hx6) (hr (by omega))
end Go.Proofs.Ytlgkfjgpjggmcaa.W
end

section
open Go Go.Proofs Go.Proofs.Ytlgkfjgpjggmcaa
set_option maxRecDepth 100000
namespace Go.Proofs.Ytlgkfjgpjggmcaa.W
def RateOk (l : List Value) : Prop := ∃ r f p, l = [.int .i64 r, .int .i64 f, .int .i64 p] ∧ 1 ≤ r ∧ r ≤ 5700000000
theorem RateOk.v {l : List Value} (h : RateOk l) : BurnV l := by obtain ⟨r, f, p, h, _⟩ := h; exact ⟨r, f, p, h⟩
theorem burn46' {d : ShopD} {c : CandD} {m : CM} {b : Nat} (h : Look d c m b) {l : List Value} (hl : TruthOk l) {K : Value → CM → Prop} {Kp : List PanicEntry → CM → Prop} (hK : ∀ m' l, m.le m' → RateOk l → K (.agg ⟨l⟩) m') :
    callw Try.prog 46 [.pointer (some ⟨b, 0, none⟩), .agg ⟨l⟩] m K Kp := by
  obtain ⟨t1, t2, t3, t4, t5, t6, rfl, h1, h2, h5, h6⟩ := hl
  refine burn46 h fun m' r f p hle hr => hK m' _ hle ⟨r, f, p, rfl, ?_⟩
  rw [hr]
  exact rate_pos h1 h2 ⟨h5, h6⟩
theorem TruthOk.len {l : List Value} (h : TruthOk l) : l.length = 6 ∧ l.all one = true := by obtain ⟨_, _, _, _, _, _, rfl, _⟩ := h; exact ⟨rfl, rfl⟩
theorem RateOk.len {l : List Value} (h : RateOk l) : l.length = 3 ∧ l.all one = true := by obtain ⟨_, _, _, rfl, _⟩ := h; exact ⟨rfl, rfl⟩
/-- ends. -/
theorem ends47 {d : ShopD} {c : CandD} {m : CM} {b : Nat} (h : Look d c m b) {w : Int} (hw : 0 ≤ w ∧ w < d.nw) {K : Value → CM → Prop} {Kp : List PanicEntry → CM → Prop} (hK : ∀ m' l l', m.le m' → RateOk l → RateOk l' → K (.tuple ⟨[.agg ⟨l⟩, .agg ⟨l'⟩]⟩) m') :
    callw Try.prog 47 [.pointer (some ⟨b, 0, none⟩), .int .i64 w] m K Kp := by
  apply c47
  unfold s47
  refine alw_of ze48 fun b4 m1 hle1 hb4 ho4 => alw_of ze48 fun b5 m2 hle2 hb5 ho5 => ?_
  have hne45 : b4 ≠ b5 := by have := ho4.1; omega
  have h4m : m.next ≤ b4 := hb4
  have h5m : m.next ≤ b5 := by have := hle1.1; omega
  replace ho4 := ho4.le hle2
  have hle := hle1.trans hle2
  refine truths45 (h.le hle) hw fun m3 l l' hle3 hl hl' => ?_
  obtain ⟨n1, a1⟩ := hl.len
  obtain ⟨n2, a2⟩ := hl'.len
  replace ho4 := ho4.le hle3
  replace ho5 := ho5.le hle3
  replace hle := hle.trans hle3
  simp only [cext, List.getElem?_cons_zero, List.getElem?_cons_succ, pop_some]
  refine alw_of ze31 fun b6 m4 hle4 hb6 ho6 => alw_of ze31 fun b7 m5 hle5 hb7 ho7 => ?_
  have hne67 : b6 ≠ b7 := by have := ho6.1; omega
  have hne46 : b4 ≠ b6 := by have := ho4.1; omega
  have hne56 : b5 ≠ b6 := by have := ho5.1; omega
  have hne47 : b4 ≠ b7 := by have := ho4.1; have := hle4.1; omega
  have hne57 : b5 ≠ b7 := by have := ho5.1; have := hle4.1; omega
  have h6m : m.next ≤ b6 := by have := hle.1; omega
  have h7m : m.next ≤ b7 := by have := hle.1; have := hle4.1; omega
  replace ho4 := (ho4.le hle4).le hle5
  replace ho5 := (ho5.le hle4).le hle5
  replace ho6 := ho6.le hle5
  replace hle := (hle.trans hle4).trans hle5
  refine store_own ho6 (by simp [toL, sz31, n1]) (by simp [toL, n1]) a1 fun m6 hn6 hx6 ho6 => ?_
  simp only [toL] at ho6
  replace ho4 := Own.keep ho4 hn6 hx6 hne46
  replace ho5 := Own.keep ho5 hn6 hx6 hne56
  replace ho7 := Own.keep ho7 hn6 hx6 hne67.symm
  replace hle := le_of_put hle h6m hn6 hx6
  refine store_own ho7 (by simp [toL, sz31, n2]) (by simp [toL, n2]) a2 fun m7 hn7 hx7 ho7 => ?_
  simp only [toL] at ho7
  replace ho4 := Own.keep ho4 hn7 hx7 hne47
  replace ho5 := Own.keep ho5 hn7 hx7 hne57
  replace ho6 := Own.keep ho6 hn7 hx7 hne67
  replace hle := le_of_put hle h7m hn7 hx7
  rw [lda ho6 ag31 (by rw [n1]; exact sz31), pop_some]
  refine burn46' (h.le hle) hl fun m8 r hle8 hr => ?_
  obtain ⟨n3, a3⟩ := hr.len
  replace ho4 := ho4.le hle8
  replace ho5 := ho5.le hle8
  replace ho6 := ho6.le hle8
  replace ho7 := ho7.le hle8
  replace hle := hle.trans hle8
  refine store_own ho4 (by simp [toL, sz48, n3]) (by simp [toL, n3]) a3 fun m9 hn9 hx9 ho4 => ?_
  simp only [toL] at ho4
  replace ho5 := Own.keep ho5 hn9 hx9 hne45.symm
  replace ho6 := Own.keep ho6 hn9 hx9 hne46.symm
  replace ho7 := Own.keep ho7 hn9 hx9 hne47.symm
  replace hle := le_of_put hle h4m hn9 hx9
  rw [lda ho6 ag31 (by rw [n1]; exact sz31), pop_some, lda ho7 ag31 (by rw [n2]; exact sz31), pop_some]
  have hfin : ∀ {m' : CM} {l l' : List Value}, m.le m' → RateOk l → RateOk l' → Own m' b4 l 0 → Own m' b5 l' 0 → leaveV Try.prog [.c 48 (.pointer (some ⟨b4, 0, none⟩)), .c 48 (.pointer (some ⟨b5, 0, none⟩))] [] .ret m' (RK K Kp) := by
    intro m' l l' hl h1 h2 o1 o2
    show pop (cload Try.prog 48 (.pointer (some ⟨b4, 0, none⟩)) m') m' _
    rw [lda o1 ag48 (by rw [h1.len.1]; exact sz48), pop_some]
    show pop (cload Try.prog 48 (.pointer (some ⟨b5, 0, none⟩)) m') m' _
    rw [lda o2 ag48 (by rw [h2.len.1]; exact sz48), pop_some]
    exact hK _ _ _ hl h1 h2
  have heq : ∃ t, cbin Try.prog BinOp.eql 31 (Operand.tmp 17) (Operand.tmp 18) (.agg ⟨l⟩) (.agg ⟨l'⟩) = some (.bool t) := by
    obtain ⟨_, _, _, _, _, _, rfl, _⟩ := hl
    obtain ⟨_, _, _, _, _, _, rfl, _⟩ := hl'
    exact eq31 ..
  obtain ⟨t, ht⟩ := heq
  rw [ht, pop_some]
  have hsz : szOf Try.prog 48 = some r.length := by rw [n3]; exact sz48
  cases t with
  | true =>
    rw [cnd_true, lda ho4 ag48 hsz, pop_some, lda ho4 ag48 hsz, pop_some]
    refine store_own ho4 (by simp [toL, sz48, n3]) (by simp [toL]) a3 fun mA hnA hxA ho4 => ?_
    simp only [toL] at ho4
    replace ho5 := Own.keep ho5 hnA hxA hne45.symm
    replace hle := le_of_put hle h4m hnA hxA
    refine store_own ho5 (by simp [toL, sz48, n3]) (by simp [toL, n3]) a3 fun mB hnB hxB ho5 => ?_
    simp only [toL] at ho5
    exact hfin (le_of_put hle h5m hnB hxB) hr hr (Own.keep ho4 hnB hxB hne45) ho5
  | false =>
    rw [cnd_false, lda ho4 ag48 hsz, pop_some, lda ho7 ag31 (by rw [n2]; exact sz31), pop_some]
    refine burn46' (h.le hle) hl' fun mA r' hleA hr' => ⟨hleA, ?_⟩
    obtain ⟨n4, a4⟩ := hr'.len
    generalize hJ : memJ m9 _ (fun _ => true) mA.next = mJ
    have hleJ : m9.le mJ := by
      subst hJ
      exact memJ_last hleA rfl fun x => get_over ..
    refine store_own (ho4.le hleJ) (by simp [toL, sz48, n3]) (by simp [toL]) a3 fun mB hnB hxB ho4' => ?_
    simp only [toL] at ho4'
    have ho5' := Own.keep (ho5.le hleJ) hnB hxB hne45.symm
    have hleB := le_of_put (hle.trans hleJ) h4m hnB hxB
    refine store_own ho5' (by simp [toL, sz48, n4]) (by simp [toL, n4]) a4 fun mC hnC hxC ho5'' => ?_
    simp only [toL] at ho5''
    exact hfin (le_of_put hleB h5m hnC hxC) hr hr' (Own.keep ho4' hnC hxC hne45) ho5''

theorem HV.keepBut {m m' : CM} {v : Value} {bn : Option Nat} {c : List Value} {b : Nat} (h : HV m v bn c) (hn : m'.next = m.next) (hx : ∀ y, y ≠ b → m'.get y = m.get y) (hb : bn ≠ some b) : HV m' v bn c :=
  h.of_get (by omega) fun y e => hx y fun e' => hb (by rw [e, e'])
theorem HV.le {m m' : CM} {v : Value} {bn : Option Nat} {c : List Value} (h : HV m v bn c) (k : m.le m') : HV m' v bn c := h.of_get k.1 fun y e => k.2 y (h.lt e)
set_option maxHeartbeats 1000000 in
/-- faults. -/
theorem faults48 {d : ShopD} {c : CandD} {m : CM} {b : Nat} (h : Look d c m b) {w : Int} (hw : 0 ≤ w ∧ w < d.nw) {K : Value → CM → Prop} {Kp : List PanicEntry → CM → Prop}
    (hK : ∀ m' v bn cs, m.le m' → HV m' v bn cs → (∀ y, bn = some y → m.next ≤ y) → cs.length ≤ 4 → (∀ u ∈ cs, ∃ n, u = .int .i64 n) → K v m') :
    callw Try.prog 48 [.pointer (some ⟨b, 0, none⟩), .int .i64 w] m K Kp := by
  apply c48
  unfold s48 j48_0
  refine box_of fun b2 m1 hle1 hb2 ho2 => var_of (v := .func (.func 71) ⟨[]⟩ ⟨[.pointer (some ⟨b2, 0, none⟩)]⟩) ze121 (by simp [toL, sz121]) (by simp [toL]) rfl fun b5 m2 hle2 hb5 ho5 => ?_
  simp only [toL] at ho2 ho5
  replace ho2 := ho2.le hle2
  have hle := hle1.trans hle2
  have hcb : ∀ (n : Int) (f : Nat) (cs : List Value), cbuild Try.prog 124 [(0, .int .i64 n), (1, .func (.func f) ⟨[]⟩ ⟨cs⟩)] = some (.agg ⟨[.int .i64 n, .func (.func f) ⟨[]⟩ ⟨cs⟩]⟩) := fun n f cs => by kernel_rfl
  rw [hcb, pop_some, hcb, pop_some, hcb, pop_some, hcb, pop_some]
  let rows : Nat → List Value := fun i => [.int .i64 (i + 1), [(.func (.func 72) ⟨[]⟩ ⟨[.pointer (some ⟨b2, 0, none⟩)]⟩), (.func (.func 73) ⟨[]⟩ ⟨[.pointer (some ⟨b2, 0, none⟩)]⟩), (.func (.func 74) ⟨[]⟩ ⟨[.pointer (some ⟨b5, 0, none⟩), .pointer (some ⟨b2, 0, none⟩)]⟩), (.func (.func 75) ⟨[]⟩ ⟨[.pointer (some ⟨b5, 0, none⟩), .pointer (some ⟨b2, 0, none⟩)]⟩)].getD i undef]
  refine lit_of Try.underlying125 (e := 1) sz124 ze124 rfl (by decide) (c := cat rows 4) rfl fun b20 m3 hle3 hb20 ho20 => ?_
  replace ho2 := ho2.le hle3
  replace ho5 := ho5.le hle3
  replace hle := hle.trans hle3
  have hsl : Sl 2 m3 (.slice (some ⟨b20, 0, none⟩) 4 0) 4 rows := .inr (.inl ⟨b20, 0, 0, _, true, rfl, ho20.1, ho20.2, fun i hi => ⟨rfl, fun j hj => by rw [Nat.zero_add]; exact cat_get (rows := rows) (fun _ _ => rfl) hi hj⟩⟩)
  rw [ho2.cel.z ag83 rfl, pop_some]
  refine ends47 (h.le hle) hw fun m4 l l' hle4 hl hl' => ?_
  obtain ⟨n1, a1⟩ := hl.len
  obtain ⟨n2, a2⟩ := hl'.len
  replace ho2 := ho2.le hle4
  replace ho5 := ho5.le hle4
  replace hsl := hsl.le hle4
  replace hle := hle.trans hle4
  simp only [cext, List.getElem?_cons_zero, List.getElem?_cons_succ, pop_some]
  refine alw_of ze48 fun b7 m5 hle5 hb7 ho7 => alw_of ze48 fun b8 m6 hle6 hb8 ho8 => ?_
  have hne78 : b7 ≠ b8 := by have := ho7.1; omega
  have hl27 : b2 < b7 := by have := ho2.1; omega
  have hl57 : b5 < b7 := by have := ho5.1; omega
  have hl28 : b2 < b8 := by have := ho2.1; have := hle5.1; omega
  have hl58 : b5 < b8 := by have := ho5.1; have := hle5.1; omega
  replace ho2 := (ho2.le hle5).le hle6
  replace ho5 := (ho5.le hle5).le hle6
  replace ho7 := ho7.le hle6
  have hsl0 := (hsl.le hle5).le hle6
  have hle0 := (hle.trans hle5).trans hle6
  refine store_own ho7 (by simp [toL, sz48, n1]) (by simp [toL, n1]) a1 fun m7 hn7 hx7 ho7 => ?_
  simp only [toL] at ho7
  refine store_own (Own.keep ho8 hn7 hx7 hne78.symm) (by simp [toL, sz48, n2]) (by simp [toL, n2]) a2 fun m8 hn8 hx8 ho8 => ?_
  simp only [toL] at ho8
  replace ho7 := Own.keep ho7 hn8 hx8 hne78
  replace ho2 := Own.keep (Own.keep ho2 hn7 hx7 (by omega)) hn8 hx8 (by omega)
  replace ho5 := Own.keep (Own.keep ho5 hn7 hx7 (by omega)) hn8 hx8 (by omega)
  have hle48 : m4.le m8 := ⟨by have := hle5.1; have := hle6.1; omega, fun x hx => by have := hle5.1; rw [hx8 x (by omega), hx7 x (by omega), hle6.2 x (by omega), hle5.2 x hx]⟩
  have hlk8 : Look d c m8 b := h.le (hle.trans hle48)
  have hsl8 := hsl.le hle48
  have hle8 := hle.trans hle48
  rw [hsl8.len Try.underlying125, pop_some]
  -- each test in turn: all that is older stays
  refine loopA_of (fun l0 ds m' => ds = [] ∧ m8.next ≤ m'.next ∧ (∀ x, x < m8.next → m'.get x = m8.get x) ∧ ∃ i : Nat, i ≤ 4 ∧ ∃ v bn cs, HV m' v bn cs ∧ (∀ y, bn = some y → m8.next ≤ y) ∧ cs.length ≤ i ∧ (∀ u ∈ cs, ∃ n, u = .int .i64 n) ∧
      l0 = [v, .pointer (some ⟨b7, 0, none⟩), .pointer (some ⟨b8, 0, none⟩), .slice (some ⟨b20, 0, none⟩) 4 0, .int .i64 4, .int .i64 i])
    (fun l0 _ => match l0 with | [_, _, _, _, _, .int _ i] => 4 - i.toNat | _ => 0) ⟨rfl, Nat.le_refl _, fun _ _ => rfl, 0, by omega, _, none, [], .nil, by simp, by simp, by simp, rfl⟩ ?_
  rintro X ρ ds m' ⟨rfl, hnx, hkp, i, hi, v, bn, cs, hv, hbn, hcl, hci, hll⟩ hX
  simp only [List.map_cons, List.map_nil, List.cons.injEq, and_true] at hll
  obtain ⟨q4, q7, q8, q27, q28, q29⟩ := hll
  simp only [q4, q7, q8, q27, q28, q29, cb_lss, pop_some]
  have hle8' : m8.le m' := ⟨hnx, hkp⟩
  by_cases hc : i < 4
  · have hc' : decide ((i : Int) < 4) = true := by simpa using (by omega : (i : Int) < 4)
    obtain ⟨bx, ox, hia, hcel, hlenr⟩ := (hsl8.le hle8').at Try.underlying125 sz124 (i := i) (by omega) (by omega)
    simp only [Int.toNat_natCast] at hcel hlenr
    rw [hc', cnd_true, hia, pop_some, hcel.elv ag124 sz124 hlenr (fun h => by cases h), pop_some]
    refine alloc_store ze124 (by simp [toL, elv, sz124, rows]) (by simp [toL, elv, rows]) ?_ fun b10 m9 hle9 hb10 ho10 => ?_
    · simp only [toL, elv, rows]
      have : i = 0 ∨ i = 1 ∨ i = 2 ∨ i = 3 := by omega
      rcases this with rfl | rfl | rfl | rfl <;> rfl
    simp only [toL, elv] at ho10
    replace hv := HV.le hv hle9
    have hleA : m8.le m9 := hle8'.trans hle9
    simp only [fz124_0, fz124_1, pop_some]
    rw [ho10.cel.z ag122 (j := 1) rfl, pop_some, lda (ho7.le hleA) ag48 (by rw [n1]; exact sz48), pop_some, lda (ho8.le hleA) ag48 (by rw [n2]; exact sz48), pop_some]
    have hcall : ∀ (K' : Value → CM → Prop) (Kp' : List PanicEntry → CM → Prop), (∀ m2 t, m9.le m2 → K' (.bool t) m2) → callv Try.prog ([(.func (.func 72) ⟨[]⟩ ⟨[.pointer (some ⟨b2, 0, none⟩)]⟩), (.func (.func 73) ⟨[]⟩ ⟨[.pointer (some ⟨b2, 0, none⟩)]⟩), (.func (.func 74) ⟨[]⟩ ⟨[.pointer (some ⟨b5, 0, none⟩), .pointer (some ⟨b2, 0, none⟩)]⟩), (.func (.func 75) ⟨[]⟩ ⟨[.pointer (some ⟨b5, 0, none⟩), .pointer (some ⟨b2, 0, none⟩)]⟩)].getD i undef) [.agg ⟨l⟩, .agg ⟨l'⟩] m9 K' Kp' := by
      intro K' Kp' hk
      have : i = 0 ∨ i = 1 ∨ i = 2 ∨ i = 3 := by omega
      rcases this with rfl | rfl | rfl | rfl
      · exact found72 (hlk8.le hleA) (ho2.le hleA) hl.v hl'.v hk
      · exact found73 (hlk8.le hleA) (ho2.le hleA) hl.v hl'.v hk
      · exact found74 (hlk8.le hleA) (ho2.le hleA) (ho5.le hleA) hl.v hl'.v hk
      · exact found75 (hlk8.le hleA) (ho2.le hleA) (ho5.le hleA) hl.v hl'.v hk
    refine hcall _ _ fun mA t hleB => ?_
    replace hv := HV.le hv hleB
    have hleC := hleA.trans hleB
    have hw1 : IntKind.i64.wrap ((i : Int) + 1) = (i : Int) + 1 := wrap_id (by omega) (by omega)
    have hlim : (4 : Nat) + 1 ≤ lim := by decide
    cases t with
    | true =>
      rw [cnd_true, ldi (ho10.le hleB) rfl, pop_some]
      refine app1 Try.underlying34 sz3 ze3 ap34 by3 (by decide) (by decide) hv (x := .int .i64 _) rfl (by omega) fun b' mB hb' hnB hgB hoB => ?_
      rw [cb_add, pop_some, hw1]
      refine hX _ _ _ ⟨rfl, by have := hleC.1; omega, fun x hx => by have := hleC.1; rw [hgB x (by omega) (fun e => by have := hbn x e; omega), hleC.2 x hx], i + 1, by omega, _, some b', _, .blk hoB, fun y e => by cases e; have := hleC.1; omega, by simp; omega, fun u hu => ?_, by simp⟩ ?_
      · rcases List.mem_append.1 hu with hu | hu
        · exact hci u hu
        · simp at hu; exact ⟨_, hu⟩
      · simp only [List.map_cons, List.map_nil, q29]; omega
    | false =>
      rw [cnd_false, cb_add, pop_some, hw1]
      refine hX _ _ _ ⟨rfl, hleC.1, hleC.2, i + 1, by omega, v, bn, cs, hv, hbn, by omega, hci, by simp⟩ ?_
      simp only [List.map_cons, List.map_nil, q29]; omega
  · have hc' : decide ((i : Int) < 4) = false := by simpa using (by omega : ¬ (i : Int) < 4)
    rw [hc', cnd_false, leave1, RK_ret]
    exact hK _ _ _ _ (hle8.trans hle8') hv (fun y e => by have := hbn y e; have := hle8.1; omega) (by omega) hci
end Go.Proofs.Ytlgkfjgpjggmcaa.W
end

section
open Go Go.Proofs Go.Proofs.Ytlgkfjgpjggmcaa
set_option maxRecDepth 100000
namespace Go.Proofs.Ytlgkfjgpjggmcaa.W
/-- The wicks that suit, one after the other: I i holds before the i-th, J when it is left. -/
theorem iter77 {d : ShopD} {c : CandD} {b t1 l : Nat} {I : Nat → CM → Prop} {J : CM → Prop} (hI : ∀ i m m', I i m → m.le m' → I i m') (hup : ∀ i m, I i m → I (i + 1) m) (hL : ∀ i m, I i m → Look d c m b ∧ Own m t1 [.pointer (some ⟨b, 0, none⟩)] 0)
    (hy : ∀ (i : Nat) (m : CM) (K : Value → CM → Prop), I i m → i < d.nw → (∀ m', I (i + 1) m' → K (.bool true) m') → (∀ m', J m' → K (.bool false) m') → yieldw Try.prog l [.int .i64 i] m K)
    {m : CM} (h : I 0 m) {K : Value → CM → Prop} {Kp : List PanicEntry → CM → Prop} (hK : ∀ v m', I d.nw m' ∨ J m' → K v m') : callw Try.prog 77 [yv l, .pointer (some ⟨t1, 0, none⟩)] m K Kp := by
  obtain ⟨hlk, ho1⟩ := hL _ _ h
  obtain ⟨s, w1, w2, w3, w4, w5, w6, w7, hc, _⟩ := hlk.cells
  have ho := hlk.own
  rw [hc] at ho
  have hn12 := hlk.ok.nw1
  apply c77
  unfold s77
  rw [ho1.cel.z ag83 rfl, pop_some]
  simp only [cnilc, fz100_0, fz27_0, pop_some]
  rw [ho.cel.z ag22 (j := 0) rfl, pop_some, hlk.sh.sw.len Try.underlying22, pop_some]
  refine loopA_of (fun l0 ds m' => ds = [] ∧ ∃ i : Nat, i ≤ d.nw ∧ I i m' ∧ l0 = [yv l, .pointer (some ⟨t1, 0, none⟩), .int .i64 d.nw, .int .i64 i])
    (fun l0 _ => match l0 with | [_, _, _, .int _ i] => d.nw - i.toNat | _ => 0) ⟨rfl, 0, by omega, h, rfl⟩ ?_
  clear ho ho1 hlk
  rintro X ρ ds m' ⟨rfl, i, hi, hIm, hll⟩ hX
  simp only [List.map_cons, List.map_nil, List.cons.injEq, and_true] at hll
  obtain ⟨q0, q1, q9, q10⟩ := hll
  simp only [q0, q1, q9, q10, cb_lss, pop_some]
  obtain ⟨hlk, ho1⟩ := hL _ _ hIm
  by_cases hci : i < d.nw
  · have hc' : decide ((i : Int) < (d.nw : Int)) = true := by simpa using hci
    have hw1 : IntKind.i64.wrap ((i : Int) + 1) = (i : Int) + 1 := wrap_id (by omega) (by omega)
    rw [hc', cnd_true, ho1.cel.z ag83 rfl, pop_some]
    have next : ∀ m2, I (i + 1) m2 → pop (cbin Try.prog BinOp.add 3 (Operand.tmp 10) (Operand.const (Value.int IntKind.i64 1)) (.int .i64 i) (.int .i64 1)) m2 (fun t24 m => X [yv l, .pointer (some ⟨t1, 0, none⟩), .int .i64 d.nw, t24] [] m) := by
      intro m2 h2
      rw [cb_add, pop_some, hw1]
      refine hX _ _ _ ⟨rfl, i + 1, by omega, h2, by simp⟩ ?_
      simp only [List.map_cons, List.map_nil, q10]; omega
    refine faults48 hlk ⟨by omega, by omega⟩ fun m2 v bn cs hle2 hv _ _ _ => ?_
    have hI2 := hI _ _ _ hIm hle2
    rw [hv.sl.len Try.underlying34, pop_some, cb_eql, pop_some]
    cases ht : ((cs.length : Int) == 0) with
    | false =>
      simp only [gb_bool, Bool.false_beq, Bool.not_true, gop_false, cpick_bool, Bool.false_eq_true, if_false, pop_some, cnd_false]
      exact next _ (hup _ _ hI2)
    | true =>
      simp only [gb_bool, beq_self_eq_true, gop_true]
      show yieldw Try.prog l [.int .i64 i] m2 _
      refine hy i m2 _ hI2 hci (fun m3 h3 => ?_) (fun m3 h3 => ?_)
      · rw [cun_not, pop_some, cpick_bool, if_pos rfl, pop_some, show (!true) = false from rfl, cnd_false]
        exact next _ h3
      · rw [cun_not, pop_some, cpick_bool, if_pos rfl, pop_some, show (!false) = true from rfl, cnd_true, leave0, RK_ret]
        exact hK _ _ (.inr h3)
  · have hc' : decide ((i : Int) < (d.nw : Int)) = false := by simpa using hci
    rw [hc', cnd_false, leave0, RK_ret]
    have : i = d.nw := by omega
    subst this
    exact hK _ _ (.inl hIm)

noncomputable abbrev A76 (a0 a1 t2 : Value) : CA := ((((enterA Try.f76 [a0, a1]).put (some 2) t2).put (some 4) (Value.slice none 0 0)).put (some 6) a1)
theorem yield76 {l D : Nat} {a0 a1 t2 x : Value} {m : CM} (hl : m.get l = some (.loop (rfRec (A76 a0 a1 t2) #[7] as76_0 bd76_0 D))) {RY : Value → CM → Prop} (h : r76_0 RY l (A76 a0 a1 t2) x m) : yieldw Try.prog l [x] m RY :=
  yield_text mixed (ann := ann76) hl rfl (by kernel_rfl) (by kernel_rfl) (by kernel_rfl) (by rw [er76_0]; exact h)
theorem Own.put_ne {m : CM} {b e x : Nat} {l : List Value} {y : CB} (h : Own m b l e) (hx : b ≠ x) : Own (m.put x y) b l e := ⟨h.1, by rw [CM.get_put, if_neg hx]; exact h.2⟩
/-- slices.Collect of the wicks that suit. -/
theorem seq76 {d : ShopD} {c : CandD} {b t1 : Nat} {m : CM} (h : Look d c m b) (h1 : Own m t1 [.pointer (some ⟨b, 0, none⟩)] 0) {K : Value → CM → Prop} {Kp : List PanicEntry → CM → Prop}
    (hK : ∀ m' v bn cs, m.le m' → HV m' v bn cs → (∀ y, bn = some y → m.next ≤ y) → cs.length ≤ 12 → (∀ u ∈ cs, ∃ n, u = .int .i64 n) → K v m') :
    callw Try.prog 76 [.slice none 0 0, .func (.func 77) ⟨[]⟩ ⟨[.pointer (some ⟨t1, 0, none⟩)]⟩] m K Kp := by
  have hn12 := h.ok.nw1
  apply c76
  unfold s76
  refine box_of fun b2 m1 hle1 hb2 ho2 => ?_
  simp only [toL] at ho2
  refine ⟨77, [], [.pointer (some ⟨t1, 0, none⟩)], rfl, ?_⟩
  show callw Try.prog 77 [yv (m1.next + 1), .pointer (some ⟨t1, 0, none⟩)] _ _ _
  generalize hD : m1.next = D
  let a1 : Value := .func (.func 77) ⟨[]⟩ ⟨[.pointer (some ⟨t1, 0, none⟩)]⟩
  let REC : CL := rfRec (A76 (.slice none 0 0) a1 (.pointer (some ⟨b2, 0, none⟩))) #[7] as76_0 bd76_0 D
  have hb2D : b2 < D := by have := ho2.1; omega
  have hmD : m.next ≤ D := by have := hle1.1; omega
  refine iter77 (d := d) (c := c) (b := b) (t1 := t1) (l := D + 1)
    (I := fun i m' => m.next ≤ D ∧ D + 2 ≤ m'.next ∧ (∀ x, x < m.next → m'.get x = m.get x) ∧ m'.get D = some .dfr ∧ m'.get (D + 1) = some (.loop REC) ∧ ∃ v bn cs, Own m' b2 [v] 0 ∧ HV m' v bn cs ∧ (∀ y, bn = some y → D + 2 ≤ y) ∧ cs.length ≤ i ∧ (∀ u ∈ cs, ∃ n, u = .int .i64 n))
    (J := fun _ => False) ?_ ?_ ?_ ?_ ?_ ?_
  · rintro i m2 m3 ⟨g0, g1, g2, g3, g4, v, bn, cs, g5, g6, g7, g8, g9⟩ hle
    exact ⟨g0, by have := hle.1; omega, fun x hx => by rw [hle.2 x (by omega)]; exact g2 x hx, by rw [hle.2 _ (by omega)]; exact g3, by rw [hle.2 _ (by omega)]; exact g4, v, bn, cs, g5.le hle, HV.le g6 hle, g7, g8, g9⟩
  · rintro i m2 ⟨g0, g1, g2, g3, g4, v, bn, cs, g5, g6, g7, g8, g9⟩
    exact ⟨g0, g1, g2, g3, g4, v, bn, cs, g5, g6, g7, by omega, g9⟩
  · rintro i m2 ⟨g0, g1, g2, _⟩
    have hle : m.le m2 := ⟨by omega, g2⟩
    exact ⟨h.le hle, h1.le hle⟩
  · rintro i m2 K' ⟨g0, g1, g2, g3, g4, v, bn, cs, g5, g6, g7, g8, g9⟩ hi hk _
    have hlim : (13 : Nat) ≤ lim := by decide
    refine yield76 g4 ?_
    unfold r76_0
    refine ⟨REC, g4, rfl, ?_⟩
    have g5' : Own (m2.put (D + 1) (.loop { REC with state := .busy })) b2 [v] 0 := Own.put_ne g5 (by omega)
    have g6' : HV (m2.put (D + 1) (.loop { REC with state := .busy })) v bn cs := g6.of_get (Nat.le_refl _) fun y e => by rw [CM.get_put, if_neg (by have := g7 y e; omega)]
    show pop (cload Try.prog 34 (.pointer (some ⟨b2, 0, none⟩)) (m2.put (D + 1) (.loop { REC with state := .busy }))) _ _
    rw [g5'.cel.z ag34 rfl, pop_some]
    refine app1 Try.underlying34 sz3 ze3 ap34 by3 (by decide) (by decide) g6' (x := .int .i64 i) rfl (by omega) fun b' m3 hb' hn3 hg3 ho3 => ?_
    simp only [CM.next_put] at hb' hn3 hg3
    have g5'' : Own m3 b2 [v] 0 := ⟨by omega, by rw [hg3 b2 (by omega) (fun e => by have := g7 _ e; omega), CM.get_put, if_neg (by omega)]; exact g5.2⟩
    show sop (cstore Try.prog 34 (.pointer (some ⟨b2, 0, none⟩)) _ m3) _
    refine store_own g5'' (by simp [toL, sz34]) (by simp [toL]) rfl fun m4 hn4 hx4 ho4 => ?_
    simp only [toL] at ho4
    have hl4 : m4.get (D + 1) = some (.loop { REC with state := .busy }) := by
      rw [hx4 _ (by omega), hg3 _ (by omega) (fun e => by have := g7 _ e; omega), CM.get_put, if_pos rfl]
    refine ⟨none, _, rfl, hl4, hk _ ⟨g0, by simp only [CM.next_put]; omega, fun x hx => ?_, ?_, ?_, _, some b', cs ++ [.int .i64 i], Own.put_ne ho4 (by omega), ?_, fun y e => by cases e; omega, by simp; omega, fun u hu => ?_⟩⟩
    · rw [CM.get_put, if_neg (by omega), hx4 _ (by omega), hg3 _ (by omega) (fun e => by have := g7 _ e; omega), CM.get_put, if_neg (by omega)]; exact g2 x hx
    · rw [CM.get_put, if_neg (by omega), hx4 _ (by omega), hg3 _ (by omega) (fun e => by have := g7 _ e; omega), CM.get_put, if_neg (by omega)]; exact g3
    · rw [CM.get_put, if_pos rfl]; rfl
    · refine HV.blk ⟨by simp only [CM.next_put]; have := ho3.1; omega, ?_⟩
      rw [CM.get_put, if_neg (by omega), hx4 _ (by omega)]; exact ho3.2
    · rcases List.mem_append.1 hu with hu | hu
      · exact g9 u hu
      · simp at hu; exact ⟨_, hu⟩
  · have hA : ∀ x, x < D → ((m1.alloc .dfr).alloc (.loop REC)).get x = m1.get x := fun x hx => by rw [CM.get_alloc, if_neg (by simp; omega), CM.get_alloc, if_neg (by omega)]
    refine ⟨hmD, by simp only [CM.next_alloc]; omega, fun x hx => by rw [hA x (by omega)]; exact hle1.2 x hx, by rw [CM.get_alloc, if_neg (by simp only [CM.next_alloc]; omega), CM.get_alloc, if_pos (by omega)], by rw [CM.get_alloc, if_pos (by simp only [CM.next_alloc]; omega)], _, none, [], ⟨by simp only [CM.next_alloc]; omega, by rw [hA b2 hb2D]; exact ho2.2⟩, .nil, by simp, by simp, by simp⟩
  · rintro v0 m2 (⟨g0, g1, g2, g3, g4, v, bn, cs, g5, g6, g7, g8, g9⟩ | hf)
    · refine ⟨REC, g4, (by intro h; cases h), .normal, rfl, ?_⟩
      show j76_0 _ _ _ _
      unfold j76_0
      have g5' : Own (m2.put (D + 1) (.loop { REC with state := .exhausted })) b2 [v] 0 := Own.put_ne g5 (by omega)
      rw [g5'.cel.z ag34 rfl, pop_some]
      refine ⟨by rw [CM.get_put, if_neg (by omega)]; exact g3, ?_⟩
      show RK K Kp (.ret v) _
      rw [RK_ret]
      refine hK _ _ bn cs ⟨by simp only [CM.next_set, CM.next_put]; omega, fun x hx => by rw [CM.get_set, if_neg (by omega), CM.get_put, if_neg (by omega)]; exact g2 x hx⟩ (g6.of_get (by simp) fun y e => by have := g7 y e; rw [CM.get_set, if_neg (by omega), CM.get_put, if_neg (by omega)]) (fun y e => by have := g7 y e; omega) (by omega) g9
    · exact hf.elim
theorem collect52 {d : ShopD} {c : CandD} {b t1 : Nat} {m : CM} (h : Look d c m b) (h1 : Own m t1 [.pointer (some ⟨b, 0, none⟩)] 0) {K : Value → CM → Prop} {Kp : List PanicEntry → CM → Prop}
    (hK : ∀ m' v bn cs, m.le m' → HV m' v bn cs → (∀ y, bn = some y → m.next ≤ y) → cs.length ≤ 12 → (∀ u ∈ cs, ∃ n, u = .int .i64 n) → K v m') :
    callw Try.prog 52 [.func (.func 77) ⟨[]⟩ ⟨[.pointer (some ⟨t1, 0, none⟩)]⟩] m K Kp := by
  apply c52
  unfold s52
  refine seq76 h h1 fun m' v bn cs a1 a2 a3 a4 a5 => ?_
  rw [leave1, RK_ret]
  exact hK m' v bn cs a1 a2 a3 a4 a5
theorem suiting53 {b : Nat} {m : CM} {K : Value → CM → Prop} {Kp : List PanicEntry → CM → Prop} (hK : ∀ m' t1, m.le m' → m.next ≤ t1 → Own m' t1 [.pointer (some ⟨b, 0, none⟩)] 0 → K (.func (.func 77) ⟨[]⟩ ⟨[.pointer (some ⟨t1, 0, none⟩)]⟩) m') :
    callw Try.prog 53 [.pointer (some ⟨b, 0, none⟩)] m K Kp := by
  apply c53
  unfold s53
  refine box_of fun t1 m1 hle hb ho => ?_
  rw [leave1, RK_ret]
  exact hK _ _ hle hb ho
end Go.Proofs.Ytlgkfjgpjggmcaa.W
end

section
open Go Go.Proofs Go.Proofs.Ytlgkfjgpjggmcaa
set_option maxRecDepth 100000
namespace Go.Proofs.Ytlgkfjgpjggmcaa.W
theorem cmm_min {a b : Int} : ∃ n, cmm Try.prog .min [.int .i64 a, .int .i64 b] = some (.int .i64 n) := by
  refine ⟨if b < a then b else a, ?_⟩
  simp only [cmm, plainL, plainV, Bool.and_self, if_true, Builtin.min_, List.foldlM_cons, List.foldlM_nil, Builtin.min2]
  rfl
theorem cmm_max {a b : Int} : ∃ n, cmm Try.prog .max [.int .i64 a, .int .i64 b] = some (.int .i64 n) := by
  refine ⟨if b > a then b else a, ?_⟩
  simp only [cmm, plainL, plainV, Bool.and_self, if_true, Builtin.max_, List.foldlM_cons, List.foldlM_nil, Builtin.max2]
  rfl
theorem open1 {d : ShopD} {c : CandD} {m : CM} (hd : d.In m) {w : Int} {K : Value → CM → Prop} {Kp : List PanicEntry → CM → Prop}
    (hbad : ∀ m' e, m.le m' → e ≠ 0 → K (.tuple ⟨[.pointer none, .int .i64 e]⟩) m')
    (hK : ∀ m' b, m.le m' → m.next ≤ b → Look d c m' b → 0 ≤ w ∧ w < d.nw → K (.tuple ⟨[.pointer (some ⟨b, 0, none⟩), .int .i64 0]⟩) m') :
    vop (cbuildS Try.prog 34 1 [(0, .int .i64 w)] m) (fun t m => callw Try.prog 44 [.agg ⟨d.cells⟩, .agg ⟨c.cells⟩, t] m K Kp) := by
  refine lit_of Try.underlying34 (e := 0) sz3 ze3 rfl (by decide) (c := [.int .i64 w]) rfl fun b m1 hle hb ho => ?_
  refine open44 (hd.le hle) (sl_ints (xs := [w]) ho rfl) (by simp) (fun m' e h1 h2 => hbad m' e (hle.trans h1) h2) fun m' b' h1 h2 h3 h4 h5 h6 => ?_
  have := h6 0 (by simp)
  exact hK m' b' (hle.trans h1) (by have := hle.1; omega) ⟨h3, hd.le (hle.trans h1), h4, h5⟩ (by simpa using this)
theorem open0 {d : ShopD} {c : CandD} {m : CM} (hd : d.In m) {K : Value → CM → Prop} {Kp : List PanicEntry → CM → Prop}
    (hbad : ∀ m' e, m.le m' → e ≠ 0 → K (.tuple ⟨[.pointer none, .int .i64 e]⟩) m')
    (hK : ∀ m' b, m.le m' → m.next ≤ b → Look d c m' b → K (.tuple ⟨[.pointer (some ⟨b, 0, none⟩), .int .i64 0]⟩) m') :
    callw Try.prog 44 [.agg ⟨d.cells⟩, .agg ⟨c.cells⟩, .slice none 0 0] m K Kp :=
  open44 hd (n := 0) (x := fun _ => 0) (.inl ⟨rfl, rfl⟩) (by decide) hbad fun m' b' h1 h2 h3 h4 h5 _ => hK m' b' h1 h2 ⟨h3, hd.le h1, h4, h5⟩
theorem ld27 {d : ShopD} {p : Nat} {m : CM} (h : Own m p d.cells 0) : cload Try.prog 27 (.pointer (some ⟨p, 0, none⟩)) m = some (.agg ⟨d.cells⟩) := lda h ag27 sz27
theorem ld29 {c : CandD} {p : Nat} {m : CM} (h : Own m p c.cells 0) : cload Try.prog 29 (.pointer (some ⟨p, 0, none⟩)) m = some (.agg ⟨c.cells⟩) := lda h ag29 sz29
/-- A slice of numbers that a function of the package returns. -/
def IntsV (m m' : CM) (v : Value) : Prop := ∃ bn cs, HV m' v bn cs ∧ (∀ y, bn = some y → m.next ≤ y) ∧ cs.length ≤ 12 ∧ (∀ u ∈ cs, ∃ n, u = .int .i64 n)
theorem Faults17 {d : ShopD} {c : CandD} {m : CM} (hd : d.In m) {w : Int} {K : Value → CM → Prop} {Kp : List PanicEntry → CM → Prop} (hK : ∀ m' v e, m.le m' → IntsV m m' v → K (.tuple ⟨[v, .int .i64 e]⟩) m') :
    callw Try.prog 17 [.agg ⟨d.cells⟩, .int .i64 w, .agg ⟨c.cells⟩] m K Kp := by
  apply c17
  unfold s17
  refine box_of fun p m1 hle1 hp hop => box_of fun q m2 hle2 hq hoq => ?_
  have hle := hle1.trans hle2
  rw [ld27 (hop.le hle2), pop_some, ld29 hoq, pop_some]
  refine open1 (hd.le hle) (fun m3 e hle3 he => ?_) fun m3 b hle3 hb hlk hw => ?_
  · simp only [cext, List.getElem?_cons_zero, List.getElem?_cons_succ, pop_some, cb_neq]
    rw [show (e != 0) = true by simpa using he, cnd_true, leave2, RK_ret]
    exact hK _ _ _ (hle.trans hle3) ⟨none, [], .nil, by simp, by simp, by simp⟩
  · simp only [cext, List.getElem?_cons_zero, List.getElem?_cons_succ, pop_some, cb_neq]
    rw [show ((0 : Int) != 0) = false from rfl, cnd_false]
    refine faults48 hlk hw fun m4 v bn cs h1 h2 h3 h4 h5 => ?_
    rw [leave2, RK_ret]
    exact hK _ _ _ ((hle.trans hle3).trans h1) ⟨bn, cs, h2, fun y e => by have := h3 y e; have := (hle.trans hle3).1; omega, by omega, h5⟩
theorem Suits22 {d : ShopD} {c : CandD} {m : CM} (hd : d.In m) {K : Value → CM → Prop} {Kp : List PanicEntry → CM → Prop} (hK : ∀ m' v e, m.le m' → IntsV m m' v → K (.tuple ⟨[v, .int .i64 e]⟩) m') :
    callw Try.prog 22 [.agg ⟨d.cells⟩, .agg ⟨c.cells⟩] m K Kp := by
  apply c22
  unfold s22
  refine box_of fun p m1 hle1 hp hop => box_of fun q m2 hle2 hq hoq => ?_
  have hle := hle1.trans hle2
  rw [ld27 (hop.le hle2), pop_some, ld29 hoq, pop_some]
  refine open0 (hd.le hle) (fun m3 e hle3 he => ?_) fun m3 b hle3 hb hlk => ?_
  · simp only [cext, List.getElem?_cons_zero, List.getElem?_cons_succ, pop_some, cb_neq]
    rw [show (e != 0) = true by simpa using he, cnd_true, leave2, RK_ret]
    exact hK _ _ _ (hle.trans hle3) ⟨none, [], .nil, by simp, by simp, by simp⟩
  · simp only [cext, List.getElem?_cons_zero, List.getElem?_cons_succ, pop_some, cb_neq]
    rw [show ((0 : Int) != 0) = false from rfl, cnd_false]
    refine suiting53 fun m4 t1 hle4 ht1 hot => ?_
    refine collect52 (hlk.le hle4) hot fun m5 v bn cs h1 h2 h3 h4 h5 => ?_
    rw [leave2, RK_ret]
    have hl := (hle.trans hle3).trans hle4
    exact hK _ _ _ (hl.trans h1) ⟨bn, cs, h2, fun y e => by have := h3 y e; have := hl.1; omega, h4, h5⟩
theorem BurnV.len {l : List Value} (h : BurnV l) : l.length = 3 ∧ l.all one = true := by obtain ⟨_, _, _, rfl⟩ := h; exact ⟨rfl, rfl⟩
theorem same_store {m m' : CM} {b e : Nat} {l : List Value} (ho : Own m b l e) (ho' : Own m' b l e) (hx : ∀ x, x ≠ b → m'.get x = m.get x) : ∀ x, m'.get x = m.get x := fun x => by
  by_cases h : x = b
  · subst h; rw [ho.2, ho'.2]
  · exact hx x h
theorem Burn15 {d : ShopD} {c : CandD} {m : CM} (hd : d.In m) {w : Int} {K : Value → CM → Prop} {Kp : List PanicEntry → CM → Prop} (hK : ∀ m' l l' e, m.le m' → BurnV l → BurnV l' → K (.tuple ⟨[.agg ⟨l⟩, .agg ⟨l'⟩, .int .i64 e]⟩) m') :
    callw Try.prog 15 [.agg ⟨d.cells⟩, .int .i64 w, .agg ⟨c.cells⟩] m K Kp := by
  apply c15
  unfold s15
  refine box_of fun p m1 hle1 hp hop => box_of fun q m2 hle2 hq hoq => alw_of ze48 fun b6 m3 hle3 hb6 ho6 => alw_of ze48 fun b7 m4 hle4 hb7 ho7 => ?_
  have hne : b6 ≠ b7 := by have := ho6.1; omega
  have hle := ((hle1.trans hle2).trans hle3).trans hle4
  have h6m : m.next ≤ b6 := by have := (hle1.trans hle2).1; omega
  have h7m : m.next ≤ b7 := by have := ((hle1.trans hle2).trans hle3).1; omega
  rw [ld27 (((hop.le hle2).le hle3).le hle4), pop_some, ld29 ((hoq.le hle3).le hle4), pop_some]
  replace ho6 := ho6.le hle4
  have hfin : ∀ {m' : CM} {l l' : List Value} {e : Int}, m.le m' → BurnV l → BurnV l' → Own m' b6 l 0 → Own m' b7 l' 0 → leaveV Try.prog [.c 48 (.pointer (some ⟨b6, 0, none⟩)), .c 48 (.pointer (some ⟨b7, 0, none⟩)), .v (.int .i64 e)] [] .ret m' (RK K Kp) := by
    intro m' l l' e hl h1 h2 o1 o2
    show pop (cload Try.prog 48 (.pointer (some ⟨b6, 0, none⟩)) m') m' _
    rw [lda o1 ag48 (by rw [h1.len.1]; exact sz48), pop_some]
    show pop (cload Try.prog 48 (.pointer (some ⟨b7, 0, none⟩)) m') m' _
    rw [lda o2 ag48 (by rw [h2.len.1]; exact sz48), pop_some]
    exact hK _ _ _ _ hl h1 h2
  refine open1 (hd.le hle) (fun m5 e hle5 he => ?_) fun m5 b hle5 hb hlk hw => ?_
  · simp only [cext, List.getElem?_cons_zero, List.getElem?_cons_succ, pop_some, cb_neq]
    replace ho6 := ho6.le hle5
    replace ho7 := ho7.le hle5
    replace hle := hle.trans hle5
    have hb0 : BurnV [.int .i64 0, .int .i64 0, .int .i64 0] := ⟨0, 0, 0, rfl⟩
    rw [show (e != 0) = true by simpa using he, cnd_true, lda ho6 ag48 sz48, pop_some, lda ho7 ag48 sz48, pop_some]
    refine store_own ho6 (by simp [toL, sz48]) (by simp [toL]) rfl fun m6 hn6 hx6 ho6' => ⟨⟨hn6, same_store ho6 ho6' hx6⟩, ?_⟩
    simp only [toL] at ho6'
    refine store_own ho7 (by simp [toL, sz48]) (by simp [toL]) rfl fun m7 hn7 hx7 ho7' => ⟨⟨hn7, same_store ho7 ho7' hx7⟩, ?_⟩
    exact hfin hle hb0 hb0 ho6 ho7
  · simp only [cext, List.getElem?_cons_zero, List.getElem?_cons_succ, pop_some, cb_neq]
    rw [show ((0 : Int) != 0) = false from rfl, cnd_false]
    refine ends47 hlk hw fun m6 l l' hle6 hl hl' => ?_
    replace ho6 := (ho6.le hle5).le hle6
    replace ho7 := (ho7.le hle5).le hle6
    replace hle := (hle.trans hle5).trans hle6
    simp only [cext, List.getElem?_cons_zero, List.getElem?_cons_succ, pop_some]
    obtain ⟨n1, a1⟩ := hl.len
    obtain ⟨n2, a2⟩ := hl'.len
    refine store_own ho6 (by simp [toL, sz48, n1]) (by simp [toL, n1]) a1 fun m7 hn7 hx7 ho6 => ?_
    simp only [toL] at ho6
    replace ho7 := Own.keep ho7 hn7 hx7 hne.symm
    replace hle := le_of_put hle h6m hn7 hx7
    refine store_own ho7 (by simp [toL, sz48, n2]) (by simp [toL, n2]) a2 fun m8 hn8 hx8 ho7 => ?_
    simp only [toL] at ho7
    replace ho6 := Own.keep ho6 hn8 hx8 hne
    replace hle := le_of_put hle h7m hn8 hx8
    rw [lda ho6 ag48 (by rw [n1]; exact sz48), pop_some, lda ho7 ag48 (by rw [n2]; exact sz48), pop_some]
    refine store_own ho6 (by simp [toL, sz48, n1]) (by simp [toL]) a1 fun m9 hn9 hx9 ho6' => ⟨⟨hn9, same_store ho6 ho6' hx9⟩, ?_⟩
    refine store_own ho7 (by simp [toL, sz48, n2]) (by simp [toL]) a2 fun mA hnA hxA ho7' => ?_
    exact hfin (le_of_put hle h7m hnA hxA) hl.v hl'.v (Own.keep ho6 hnA hxA hne) ho7'
end Go.Proofs.Ytlgkfjgpjggmcaa.W
end

section
open Go Go.Proofs Go.Proofs.Ytlgkfjgpjggmcaa
set_option maxRecDepth 100000
namespace Go.Proofs.Ytlgkfjgpjggmcaa.W
theorem dgs_k {X : (Value → Prop) → Prop} {K : Value → Prop} (h : X K) : dgs (some true) X K := ⟨h⟩
/-- Minutes. -/
theorem Minutes30 {d : ShopD} {c : CandD} {m : CM} (hd : d.In m) {w g : Int} {K : Value → CM → Prop} {Kp : List PanicEntry → CM → Prop} (hK : ∀ m' lo hi e, m.le m' → K (.tuple ⟨[.agg ⟨[.int .i64 lo, .int .i64 hi]⟩, .int .i64 e]⟩) m') :
    callw Try.prog 30 [.agg ⟨d.cells⟩, .int .i64 w, .agg ⟨c.cells⟩, .int .i64 g] m K Kp := by
  apply c30
  unfold s30
  refine box_of fun p m1 hle1 hp hop => box_of fun q m2 hle2 hq hoq => alw_of ze25 fun b8 m3 hle3 hb8 ho8 => ?_
  have hle := (hle1.trans hle2).trans hle3
  have h8m : m.next ≤ b8 := by have := (hle1.trans hle2).1; omega
  rw [ld27 ((hop.le hle2).le hle3), pop_some, ld29 (hoq.le hle3), pop_some]
  have hbad : ∀ {m' : CM} {lo hi e : Int}, m.le m' → Own m' b8 [.int .i64 lo, .int .i64 hi] 0 → pop (cload Try.prog 25 (.pointer (some ⟨b8, 0, none⟩)) m') m' (fun t25 m => sop (cstore Try.prog 25 (.pointer (some ⟨b8, 0, none⟩)) t25 m) (fun _ m => leaveV Try.prog [.c 25 (.pointer (some ⟨b8, 0, none⟩)), .v (.int .i64 e)] [] .ret m (RK K Kp))) := by
    intro m' lo hi e hl ho
    rw [lda ho ag25 sz25, pop_some]
    refine store_own ho (by simp [toL, sz25]) (by simp [toL]) rfl fun m6 hn6 hx6 ho6 => ?_
    simp only [toL] at ho6
    show pop (cload Try.prog 25 (.pointer (some ⟨b8, 0, none⟩)) m6) m6 _
    rw [lda ho6 ag25 sz25, pop_some]
    exact hK _ _ _ _ (le_of_put hl h8m hn6 hx6)
  refine open1 (hd.le hle) (fun m5 e hle5 he => ?_) fun m5 b hle5 hb hlk hw => ?_
  · simp only [cext, List.getElem?_cons_zero, List.getElem?_cons_succ, pop_some, cb_neq]
    rw [show (e != 0) = true by simpa using he, cnd_true]
    exact hbad (hle.trans hle5) (ho8.le hle5)
  · simp only [cext, List.getElem?_cons_zero, List.getElem?_cons_succ, pop_some, cb_neq]
    rw [show ((0 : Int) != 0) = false from rfl, cnd_false]
    refine out_1 fun t30 m6 hle6 h30 => ?_
    replace ho8 := (ho8.le hle5).le hle6
    replace hle := (hle.trans hle5).trans hle6
    cases t30 with
    | true => rw [cnd_true]; exact hbad hle ho8
    | false =>
    rw [cnd_false]
    refine ends47 (hlk.le hle6) hw fun m7 l l' hle7 hl hl' => ?_
    obtain ⟨n1, a1⟩ := hl.len
    obtain ⟨n2, a2⟩ := hl'.len
    replace ho8 := ho8.le hle7
    replace hle := hle.trans hle7
    simp only [cext, List.getElem?_cons_zero, List.getElem?_cons_succ, pop_some]
    refine alw_of ze48 fun b11 m8 hle8 hb11 ho11 => alw_of ze48 fun b12 m9 hle9 hb12 ho12 => ?_
    have hne : b11 ≠ b12 := by have := ho11.1; omega
    have hne8 : b8 ≠ b11 := by have := ho8.1; omega
    have hne9 : b8 ≠ b12 := by have := ho8.1; have := hle8.1; omega
    have h11m : m.next ≤ b11 := by have := hle.1; omega
    have h12m : m.next ≤ b12 := by have := hle.1; have := hle8.1; omega
    replace ho8 := (ho8.le hle8).le hle9
    replace ho11 := ho11.le hle9
    replace hle := (hle.trans hle8).trans hle9
    refine store_own ho11 (by simp [toL, sz48, n1]) (by simp [toL, n1]) a1 fun mA hnA hxA ho11 => ?_
    simp only [toL] at ho11
    replace ho8 := Own.keep ho8 hnA hxA hne8
    replace ho12 := Own.keep ho12 hnA hxA hne.symm
    replace hle := le_of_put hle h11m hnA hxA
    refine store_own ho12 (by simp [toL, sz48, n2]) (by simp [toL, n2]) a2 fun mB hnB hxB ho12 => ?_
    simp only [toL] at ho12
    replace ho8 := Own.keep ho8 hnB hxB hne9
    replace ho11 := Own.keep ho11 hnB hxB hne
    replace hle := le_of_put hle h12m hnB hxB
    obtain ⟨r, f, p, rfl, hr1, hr2⟩ := hl
    obtain ⟨r', f', p', rfl, hr1', hr2'⟩ := hl'
    rw [cb_mul, pop_some, cb_mul, pop_some, fz48_0, pop_some, ldi ho12 rfl, pop_some, cb_quo (by omega), pop_some, fz48_0, pop_some, ldi ho11 rfl, pop_some, cb_add, pop_some, cb_sub, pop_some, pop_some, ldi ho11 rfl, pop_some, cb_quo (by omega), pop_some]
    have hcb : ∀ a b : Int, cbuild Try.prog 25 [(0, .int .i64 a), (1, .int .i64 b)] = some (.agg ⟨[.int .i64 a, .int .i64 b]⟩) := fun a b => by kernel_rfl
    rw [hcb, pop_some]
    refine store_own ho8 (by simp [toL, sz25]) (by simp [toL]) rfl fun mC hnC hxC ho8 => ?_
    simp only [toL] at ho8
    show pop (cload Try.prog 25 (.pointer (some ⟨b8, 0, none⟩)) mC) mC _
    rw [lda ho8 ag25 sz25, pop_some]
    exact hK _ _ _ _ (le_of_put hle h8m hnC hxC)
abbrev truthC (t1 t2 t3 t4 t5 t6 : Int) : List Value := [.int .i64 t1, .int .i64 t2, .int .i64 t3, .int .i64 t4, .int .i64 t5, .int .i64 t6]
/-- At. -/
theorem At12 {d : ShopD} {c : CandD} {m : CM} (hd : d.In m) {w t1 t2 t3 t4 t5 t6 : Int} {K : Value → CM → Prop} {Kp : List PanicEntry → CM → Prop} (hK : ∀ m' l e, m.le m' → BurnV l → K (.tuple ⟨[.agg ⟨l⟩, .int .i64 e]⟩) m') :
    callw Try.prog 12 [.agg ⟨d.cells⟩, .int .i64 w, .agg ⟨c.cells⟩, .agg ⟨truthC t1 t2 t3 t4 t5 t6⟩] m K Kp := by
  apply c12
  unfold s12
  refine box_of fun p m1 hle1 hp hop => box_of fun q m2 hle2 hq hoq => box_of fun b7 m3 hle3 hb7 ho7 => alw_of ze48 fun b8 m4 hle4 hb8 ho8 => ?_
  have hle := ((hle1.trans hle2).trans hle3).trans hle4
  have h8m : m.next ≤ b8 := by have := ((hle1.trans hle2).trans hle3).1; omega
  have hne78 : b7 ≠ b8 := by have := ho7.1; omega
  rw [ld27 (((hop.le hle2).le hle3).le hle4), pop_some, ld29 ((hoq.le hle3).le hle4), pop_some]
  simp only [toL] at ho7
  replace ho7 := ho7.le hle4
  have hcb : cbuild Try.prog 48 [] = some (.agg ⟨[.int .i64 0, .int .i64 0, .int .i64 0]⟩) := by kernel_rfl
  have hfin : ∀ {m' : CM} {l : List Value} {l0 : List Value} {e : Int}, m.le m' → BurnV l → l0.length = 3 → Own m' b8 l0 0 → sop (cstore Try.prog 48 (.pointer (some ⟨b8, 0, none⟩)) (.agg ⟨l⟩) m') (fun _ m => leaveV Try.prog [.c 48 (.pointer (some ⟨b8, 0, none⟩)), .v (.int .i64 e)] [] .ret m (RK K Kp)) := by
    intro m' l l0 e hl h1 h0 o1
    refine store_own o1 (by simp [toL, sz48, h1.len.1]) (by simp [toL, h1.len.1, h0]) h1.len.2 fun m6 hn6 hx6 ho6 => ?_
    simp only [toL] at ho6
    show pop (cload Try.prog 48 (.pointer (some ⟨b8, 0, none⟩)) m6) m6 _
    rw [lda ho6 ag48 (by rw [h1.len.1]; exact sz48), pop_some]
    exact hK _ _ _ (le_of_put hl h8m hn6 hx6) h1
  have hz : BurnV [.int .i64 0, .int .i64 0, .int .i64 0] := ⟨0, 0, 0, rfl⟩
  refine open1 (hd.le hle) (fun m5 e hle5 he => ?_) fun m5 b hle5 hb hlk hw => ?_
  · simp only [cext, List.getElem?_cons_zero, List.getElem?_cons_succ, pop_some, cb_neq]
    rw [show (e != 0) = true by simpa using he, cnd_true, hcb, pop_some]
    exact hfin (hle.trans hle5) hz rfl (ho8.le hle5)
  · simp only [cext, List.getElem?_cons_zero, List.getElem?_cons_succ, pop_some, cb_neq]
    rw [show ((0 : Int) != 0) = false from rfl, cnd_false]
    refine truths45 hlk hw fun m6 l l' hle6 hl hl' => ?_
    obtain ⟨n1, a1⟩ := hl.len
    obtain ⟨n2, a2⟩ := hl'.len
    replace ho7 := (ho7.le hle5).le hle6
    replace ho8 := (ho8.le hle5).le hle6
    replace hle := (hle.trans hle5).trans hle6
    replace hlk := hlk.le hle6
    simp only [cext, List.getElem?_cons_zero, List.getElem?_cons_succ, pop_some]
    refine alw_of ze31 fun b12 m8 hle8 hb12 ho12 => alw_of ze31 fun b13 m9 hle9 hb13 ho13 => ?_
    have hne : b12 ≠ b13 := by have := ho12.1; omega
    have hx1 : b8 ≠ b12 := by have := ho8.1; omega
    have hx2 : b8 ≠ b13 := by have := ho8.1; have := hle8.1; omega
    have hx3 : b7 ≠ b12 := by have := ho7.1; omega
    have hx4 : b7 ≠ b13 := by have := ho7.1; have := hle8.1; omega
    have h12m : m6.next ≤ b12 := hb12
    have h13m : m6.next ≤ b13 := by have := hle8.1; omega
    replace ho8 := (ho8.le hle8).le hle9
    replace ho7 := (ho7.le hle8).le hle9
    replace ho12 := ho12.le hle9
    have hle6' : m6.le m9 := hle8.trans hle9
    refine store_own ho12 (by simp [toL, sz31, n1]) (by simp [toL, n1]) a1 fun mA hnA hxA ho12 => ?_
    simp only [toL] at ho12
    replace ho8 := Own.keep ho8 hnA hxA hx1
    replace ho7 := Own.keep ho7 hnA hxA hx3
    replace ho13 := Own.keep ho13 hnA hxA hne.symm
    replace hle6' := le_of_put hle6' h12m hnA hxA
    refine store_own ho13 (by simp [toL, sz31, n2]) (by simp [toL, n2]) a2 fun mB hnB hxB ho13 => ?_
    simp only [toL] at ho13
    replace ho8 := Own.keep ho8 hnB hxB hx2
    replace ho7 := Own.keep ho7 hnB hxB hx4
    replace ho12 := Own.keep ho12 hnB hxB hne
    replace hle6' := le_of_put hle6' h13m hnB hxB
    obtain ⟨u1, u2, u3, u4, u5, u6, rfl, _⟩ := hl
    obtain ⟨v1, v2, v3, v4, v5, v6, rfl, _⟩ := hl'
    simp only [fz31_0, fz31_1, fz31_2, fz31_3, fz31_4, fz31_5, pop_some]
    have hend : ∀ {t : Bool} {m' : CM}, mB.le m' → cnd (.bool t) (pop (cbuild Try.prog 48 []) m' (fun t90 m => sop (cstore Try.prog 48 (.pointer (some ⟨b8, 0, none⟩)) t90 m) (fun _ m => leaveV Try.prog [.c 48 (.pointer (some ⟨b8, 0, none⟩)), .v (.int .i64 7)] [] .ret m (RK K Kp)))) (pop (cload Try.prog 31 (.pointer (some ⟨b7, 0, none⟩)) m') m' (fun t92 m => callw Try.prog 46 [.pointer (some ⟨b, 0, none⟩), t92] m (fun t93 m => sop (cstore Try.prog 48 (.pointer (some ⟨b8, 0, none⟩)) t93 m) (fun _ m => leaveV Try.prog [.c 48 (.pointer (some ⟨b8, 0, none⟩)), .v (.int .i64 0)] [] .ret m (RK K Kp))) (fun ch m => RK K Kp (.pan ch) m))) := by
      intro t m' hl
      cases t with
      | true => rw [cnd_true, hcb, pop_some]; exact hfin ((hle.trans hle6').trans hl) hz rfl (ho8.le hl)
      | false =>
        rw [cnd_false, lda (ho7.le hl) ag31 sz31, pop_some]
        refine burn46 ((hlk.le hle6').le hl) fun m2 r f p hl2 _ => ?_
        exact hfin (((hle.trans hle6').trans hl).trans hl2) ⟨r, f, p, rfl⟩ rfl ((ho8.le hl).le hl2)
    have step : ∀ {x y z : Int} {m' : CM} {K' : Value → CM → Prop} {Kp' : List PanicEntry → CM → Prop}, mB.le m' → (∀ t m2, mB.le m2 → K' (.bool t) m2) → vop (cbuildS Try.prog 34 1 [(0, .int .i64 z)] m') (fun t m1 => callw Try.prog 38 [.int .i64 x, .int .i64 y, t] m1 K' Kp') :=
      fun hl hk => out_1 fun t m2 hl2 _ => hk t m2 (hl.trans hl2)
    rw [ldi ho12 rfl, pop_some, ldi ho13 rfl, pop_some, ldi ho7 rfl, pop_some]
    refine step (.refl _) fun t39 mC hC => ?_
    cases t39 with
    | true => simp only [gb_bool, Bool.true_beq, gop_false, cpick_bool, pop_some, if_true]; exact hend hC
    | false =>
    simp only [gb_bool, beq_self_eq_true, gop_true, cpick_bool, Bool.false_eq_true, if_false, pop_some]
    rw [ldi (ho12.le hC) rfl, pop_some, ldi (ho13.le hC) rfl, pop_some, ldi (ho7.le hC) rfl, pop_some]
    refine step hC fun t49 mD hD => ?_
    cases t49 with
    | true => simp only [gb_bool, Bool.true_beq, gop_false, cpick_bool, pop_some, if_true]; exact hend hD
    | false =>
    simp only [gb_bool, beq_self_eq_true, gop_true, cpick_bool, Bool.false_eq_true, if_false, pop_some]
    rw [ldi (ho12.le hD) rfl, pop_some, ldi (ho13.le hD) rfl, pop_some, ldi (ho7.le hD) rfl, pop_some]
    refine step hD fun t59 mE hE => ?_
    cases t59 with
    | true => simp only [gb_bool, Bool.true_beq, gop_false, cpick_bool, pop_some, if_true]; exact hend hE
    | false =>
    simp only [gb_bool, beq_self_eq_true, gop_true, cpick_bool, Bool.false_eq_true, if_false, pop_some]
    rw [ldi (ho12.le hE) rfl, pop_some, ldi (ho13.le hE) rfl, pop_some, ldi (ho7.le hE) rfl, pop_some]
    refine step hE fun t69 mF hF => ?_
    cases t69 with
    | true => simp only [gb_bool, Bool.true_beq, gop_false, cpick_bool, pop_some, if_true]; exact hend hF
    | false =>
    simp only [gb_bool, beq_self_eq_true, gop_true, cpick_bool, Bool.false_eq_true, if_false, pop_some]
    rw [ldi (ho12.le hF) rfl, pop_some, ldi (ho13.le hF) rfl, pop_some, ldi (ho7.le hF) rfl, pop_some]
    refine step hF fun t79 mG hG => ?_
    cases t79 with
    | true => simp only [gb_bool, Bool.true_beq, gop_false, cpick_bool, pop_some, if_true]; exact hend hG
    | false =>
    simp only [gb_bool, beq_self_eq_true, gop_true, cpick_bool, Bool.false_eq_true, if_false, pop_some]
    rw [ldi (ho13.le hG) rfl, pop_some, ldi (ho12.le hG) rfl, pop_some, ldi (ho7.le hG) rfl, pop_some]
    refine step hG fun t89 mH hH => ?_
    exact hend hH
end Go.Proofs.Ytlgkfjgpjggmcaa.W
end
