/- Calls that are known, as primitives. -/
import Derived.Test.YtaechjdhhpjkkaaGreatDoorIc
set_option linter.unusedVariables false
set_option linter.unusedSimpArgs false
namespace Go.Run
open Go Go.RowKit Go.Proofs
noncomputable section
def primT (base : FuncId → Option Prim) (tab : List (Nat × List Sm)) (f : FuncId) : Option Prim := List.rec (base f) (fun p _ ih => Bool.rec ih (some (sumsP p.2)) (Nat.beq p.1 f)) tab
def CT (tab : List (Nat × List Sm)) : CallF := call (eOf Tryz.prog) (fOf Tryz.prog msk) (primT prim tab) 200
end
/-- A call that is known. -/
structure G1 (ln f : Nat) (z : Sm) : Prop where
  summ : Summ Tryz.prog ln OkW f z
  le : Nat.ble (z.bs ++ z.cs).length 1000000 = true
  opn : openB z.cs = true
def GT (ln : Nat) (tab : List (Nat × List Sm)) : Prop := ∀ p, p ∈ tab → ∀ z, z ∈ p.2 → G1 ln p.1 z
section
variable {ln : Nat} {w0 : World}
theorem GT.nil : GT ln [] := fun p hp => by cases hp
theorem GT.cons {f : Nat} {l : List Sm} {tab : List (Nat × List Sm)} (h : ∀ z, z ∈ l → G1 ln f z) (ht : GT ln tab) : GT ln ((f, l) :: tab) := fun p hp => by
  rcases List.mem_cons.1 hp with rfl | hp
  · exact h
  · exact ht p hp
theorem all_nil {p : Sm → Prop} : ∀ z, z ∈ ([] : List Sm) → p z := fun z hz => by cases hz
theorem all_cons {p : Sm → Prop} {z0 : Sm} {l : List Sm} (h0 : p z0) (h : ∀ z, z ∈ l → p z) : ∀ z, z ∈ z0 :: l → p z := fun z hz => by
  rcases List.mem_cons.1 hz with rfl | hz
  · exact h0
  · exact h z hz
theorem primT_ok (hw : OkW w0) : ∀ (tab : List (Nat × List Sm)), GT ln tab → ∀ (f : FuncId) (p : Prim), primT prim tab f = some p → PrimOk Tryz.prog ln w0 f p
  | [], _, f, p, hp => prim_ok hw f p hp
  | (g, l) :: tab, ht, f, p, hp => by
    have hp : (Bool.rec (primT prim tab f) (some (sumsP l)) (Nat.beq g f) : Option Prim) = some p := hp
    cases hq : Nat.beq g f with
    | false =>
      rw [hq] at hp
      exact primT_ok hw tab (fun q hq => ht q (List.mem_cons_of_mem _ hq)) f p hp
    | true =>
      rw [hq] at hp
      cases hp
      obtain rfl := beqN hq
      exact sumsP_ok (fun w hb => hw.below hb) l fun z hz => by
        have := ht (g, l) List.mem_cons_self z hz
        exact ⟨this.summ, this.le, this.opn⟩
theorem CT_ok {tab : List (Nat × List Sm)} (ht : GT ln tab) (w0 : World) (hw : OkW w0) : CfOk Tryz.prog ln w0 (CT tab) :=
  call_ok eOf_ok (by kernel_rfl) (fun f fn h => fOf_ok noNum f fn h) (fun f p hp => primT_ok hw tab ht f p hp) 200
theorem G1.of {tab : List (Nat × List Sm)} (ht : GT ln tab) {f : Nat} {z : Sm} (t : List Nat) (e : sumB (CT tab) f t z = true) (h1 : Nat.ble (z.bs ++ z.cs).length 1000000 = true) (h2 : openB z.cs = true) : G1 ln f z :=
  ⟨Summ.of_run (fun w hw => CT_ok ht w hw) e, h1, h2⟩
end
end Go.Run
