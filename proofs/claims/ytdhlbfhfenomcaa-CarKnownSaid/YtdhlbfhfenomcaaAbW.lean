/- From a reckoning to what the law's row asks: no argument, true. -/
import Derived.Test.YtdhlbfhfenomcaaAbM
namespace Go.Proofs.Ytdhlbfhfenomcaa.Ab
open Go Go.RowKit
set_option linter.unusedVariables false
def retB (v : AV) (_ : List Blk) : Option Bool := match v with
  | .bool b => some b
  | _ => none
theorem true_of_run {P : Program} {cl : Bool} {Γ : Table} {ok imp : FuncId → Bool} (hm : P.follows .mixedOrders = true) (hok : FunOK P ok) (hΓ : TabOK P Γ) (n : Nat) {f : FuncId} {l : List AV} (e : run P cl Γ ok imp n f l [] retB = some true)
    {K : Ks} {w : World} {cas : Array Value} (hr : Rel w.heap.size (fun _ => none) K [] w) (hd : DenL K (fun _ => none) l cas.toList) : Calls P f cas w fun e w' => e = .returned (.bool true) ∧ Below w.heap.size w w' := by
  refine (run_calls hm hok hΓ n e hr hd).mono fun en w' hx => ?_
  obtain ⟨v, h', φ', K', cv, rfl, h1, h2, h3, h4, h5, h6, _⟩ := hx
  unfold retB at h1
  split at h1
  · cases h1
    cases h6
    exact ⟨rfl, h5⟩
  · cases h1
theorem true_no_arg {P : Program} {cl : Bool} {Γ : Table} {ok imp : FuncId → Bool} (hm : P.follows .mixedOrders = true) (hok : FunOK P ok) (hΓ : TabOK P Γ) (n : Nat) {f : FuncId} (e : run P cl Γ ok imp n f [] [] retB = some true) (w : World) :
    Calls P f #[] w fun e w' => e = .returned (.bool true) ∧ Below w.heap.size w w' :=
  true_of_run (K := fun _ _ => none) hm hok hΓ n e ⟨Nat.le_refl _, fun _ _ => rfl, fun i b g hb => by (cases hb), fun i b hb => by (cases hb), fun i b g hb => by (cases hb), fun i j b c g k hb => by (cases hb), fun cb o v hv => by (cases hv), fun cb o v hv => by (cases hv)⟩ (DenL.nil _ _)
end Go.Proofs.Ytdhlbfhfenomcaa.Ab
