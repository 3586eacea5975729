import Derived.Test.YtadmoackacickaaXCode
import Derived.WalkKit
import Derived.ProofKit
import Derived.OpenShut
import Derived.JoinedCond
import Derived.ChangeMaps5
/- From the small evaluator to a row: a law that returns true and leaves all as it was. -/
namespace Go.AH
open Go.ChangeShapes Go.WideShapes Go.ChangeAt Go.RowKit
variable {H : Type} {enc : TypeId × Value → H} {P : Program}

theorem post_below {f : Func} {s : ChangeSpec} {apart fresh handsOn : Bool} {W W' : World} {args : Array Value} {v : Value} {ds gs : List (DataW H)} {before pa pv : List MemPlace}
    (hW : DataW.Whole enc P f.params.toList s.vars apart W args.toList ds gs before)
    (hres : ∀ (b : Nat) (sp : Nat → Bool) (hd : Bool), DataW.TrodAll enc P W' b sp hd f.resultTypes.toList (v.resultList f.resultTypes.size) (s.fn H (ds ++ gs)).results [])
    (hargs : ∀ sp : Nat → Bool, (∀ p ∈ before, sp p.block = true) → DataW.TrodAll enc P W' 0 sp true f.params.toList args.toList (s.fn H (ds ++ gs)).args pa)
    (hvars : ∀ sp : Nat → Bool, (∀ p ∈ before, sp p.block = true) → DataW.TrodVars enc P W' sp s.vars (s.fn H (ds ++ gs)).vars pv)
    (hb : Below W.heap.size W W') :
    s.post enc P f apart fresh handsOn false W args v W' := by
  have hold : ∀ p ∈ before, (fun b => decide (b < W.heap.size)) p.block = true := fun p hp => by simpa using hW.lt p hp
  refine ⟨ds, gs, before, [], pa, pv, hW, hres _ _ _, hargs _ hold, hvars _ hold, hb.frame _, fun h => by cases h⟩

/-- At the start nothing is known of memory. -/
def h00 : AHeap := ⟨0, fun _ => none, fun _ _ => 0, fun _ _ => 0, fun _ => none⟩
def i00 : Inj := ⟨fun _ => none, fun _ => none⟩
theorem start_rel (W : World) : HRel P W i00 h00 W where
  below := Below.refl _ _
  dom := fun i p h => by cases h
  domM := fun i p h => by cases h
  pl := fun i p h => by cases h
  obj := fun i o h => by simp [AHeap.at?, h00] at h
  tip := fun i o h => by simp [AHeap.at?, h00] at h
  eps := fun i o h => by cases h
  fam := fun i j oi oj p q h => by simp [AHeap.at?, h00] at h
  maps := fun i l h => by cases h
  mp := fun i r h => by cases h
  mpInj := fun i j r h => by cases h

theorem law_calls {Ms : FuncId → Masks} {d : Nat} {f : FuncId} {args : List Value} {args' : Array Value} {W : World} {ι : Inj} {h h' : AHeap} (hm : P.follows .mixedOrders = true)
    (hn : P.funcs.all (fun (fn : Func) => fn.name != "runtime.NumGoroutine") = true) (he : call P Ms d f args h = some (.bool true, h')) (ha : All2 (VR ι) args args'.toList) (H : HRel P W ι h W) :
    Calls P f args' W fun e W' => e = .returned (.bool true) ∧ Below W.heap.size W W' :=
  ((call_sound (w0 := W) hm hn Ms d).calls _ _ _ _ _ he ι W args' ha H).mono fun e W' ⟨v', ι', e1, _, H', hv⟩ => by
    subst e1
    rw [VR.bool_inv' hv]
    exact ⟨rfl, H'.below⟩
end Go.AH
