/- Part 19 of 21 of the proof that the law TopAnewScent returns true and leaves its argument as it read before, for every input that the bounded statement admits (what it reads is of bulk at most 1048576). -/
import Derived.Test.YtclgfagkaklnnaaGreatP04
import Derived.Test.YtclgfagkaklnnaaGreatP18
namespace Go.Proofs.YtclgfagkaklnnaaGreat
open Go
/-- What a closed call's answer is asked to be. -/
def isTrue : KB := fun v _ => match v with | .bool b => b | _ => false
def never : KPB := fun _ _ => false
/-- A CLOSED CALL that was carried out in the empty memory answers true in every memory, and leaves it as it is. -/
theorem closed {P : Program} (hmx : P.follows .mixedOrders = true) {lf n : Nat} {f : FuncId} (h : callF P lf n 0 f [] ⟨.nil, 0⟩ isTrue never = true) (M : CM) :
    callw P f [] M (fun v m' => v = .bool true ∧ M.le m') (fun _ _ => False) := by
  obtain ⟨e, m1, hc, hk⟩ := callF_ok (lf := lf) hmx n 0 f [] ⟨.nil, 0⟩ isTrue never (Nat.le_refl _) h
  obtain ⟨M', hM, hn, _, hfar⟩ := hc.move (M := M) (fun b => M.next + b) (fun b x hx => by simp [CM.get, T.get] at hx) (fun b hb => by simp at hb) (fun a b ha => by simp at ha) (fun b _ => by simp) (fun b x y hx => by simp [CM.get, T.get] at hx) (Nat.zero_le _)
  refine ⟨renE (fun b => M.next + b) e, M', hM, ?_⟩
  cases e with
  | ret v =>
    obtain ⟨_, hv⟩ := hk
    have : v = .bool true := by
      unfold isTrue at hv
      split at hv
      · rename_i b; rw [hv]
      · cases hv
    subst this
    refine ⟨by simp [ren], ⟨by rw [hn]; simp, fun b hb => hfar b hb (fun c x hx => by simp [CM.get, T.get] at hx)⟩⟩
  | pan ch => obtain ⟨_, hv⟩ := hk; cases hv
end Go.Proofs.YtclgfagkaklnnaaGreat
