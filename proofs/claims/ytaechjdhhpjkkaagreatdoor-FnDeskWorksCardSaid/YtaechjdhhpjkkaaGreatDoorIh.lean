/- Calls that are known lane by lane. -/
import Derived.Test.YtaechjdhhpjkkaaGreatDoorIf
set_option linter.unusedVariables false
set_option linter.unusedSimpArgs false
namespace Go.Run
open Go Go.RowKit Go.Proofs
section
variable {ln : Nat}
theorem listEqN_get {f : Nat → Nat → Bool} : ∀ (a b : List Nat), listEq f a b = true → ∀ (i : Nat) x, a[i]? = some x → ∃ y, b[i]? = some y ∧ f x y = true
  | [], [], _, i, x, hx => by simp at hx
  | [], _ :: _, h, _, _, _ => by cases h
  | _ :: _, [], h, _, _, _ => by cases h
  | x :: a, y :: b, h, i, z, hz => by
    have h : (Bool.rec false (listEq f a b) (f x y) : Bool) = true := h
    cases hx : f x y with
    | false => rw [hx] at h; cases h
    | true =>
      rw [hx] at h
      cases i with
      | zero => cases hz; exact ⟨y, rfl, hx⟩
      | succ i => simpa using listEqN_get a b h i z (by simpa using hz)
theorem lane_fin {f m : Nat} {lb : List Nat} {y : Nat} (hy : lb[ln]? = some y) {x : V} {w : World} {vs : List Value} {G : Gh} (hs : Summ Tryz.prog ln OkW f ⟨[x], [], .str m y, []⟩) (hw : OkW w) (k : HR ln w (fun _ => False) G (mkHp []) w) (hA : RepA ln G [x] vs) :
    Does Tryz.prog f vs.toArray w fun vr w' => ∃ H, RepV ln H (.svec m lb) vr ∧ HR ln w (fun _ => False) H (mkHp ([] ++ [])) w' := by
  have fin : ∀ vr w', (∃ H, RepV ln H (.str m y) vr ∧ HR ln w (fun _ => False) H (mkHp ([] ++ [])) w') → ∃ H, RepV ln H (.svec m lb) vr ∧ HR ln w (fun _ => False) H (mkHp ([] ++ [])) w' := by
    rintro vr w' ⟨H, g1, g2⟩
    cases g1 with
    | str s h1 h2 => exact ⟨H, .svec s h1 (by rw [h2]; exact hy), g2⟩
  rcases hs G w vs hw k hA with ⟨hc, hcalls⟩ | ⟨vr, w', hrun, hR⟩
  · refine .inl ⟨hc, hcalls.mono ?_⟩
    rintro e w' ⟨vr, rfl, hR⟩
    exact ⟨vr, rfl, fin vr w' hR⟩
  · exact .inr ⟨vr, w', hrun, fin vr w' hR⟩
theorem G1.lanesS {f n m : Nat} {la lb : List Nat} (e : listEq (fun x y => sumB (CT []) f [] ⟨[.str n x], [], .str m y, []⟩) la lb = true) : G1 ln f ⟨[.svec n la], [], .svec m lb, []⟩ := by
  refine ⟨fun G w vs hw k hA => ?_, rfl, rfl⟩
  obtain ⟨v, rfl, hv⟩ := hA.one
  cases hv with
  | svec s h1 h2 =>
    obtain ⟨y, hy, he⟩ := listEqN_get _ _ e ln _ h2
    exact lane_fin hy (Summ.of_run (fun w hw => CT_ok GT.nil w hw) he) hw k (.cons (.str s h1 rfl) .nil)
theorem G1.lanesI {f m : Nat} {la lb : List Nat} (e : listEq (fun x y => sumB (CT []) f [] ⟨[.int .i64 (.ofNat x)], [], .str m y, []⟩) la lb = true) : G1 ln f ⟨[.ivec .i64 (la.map Int.ofNat)], [], .svec m lb, []⟩ := by
  refine ⟨fun G w vs hw k hA => ?_, rfl, rfl⟩
  obtain ⟨v, rfl, hv⟩ := hA.one
  cases hv with
  | @ivec _ _ n hn =>
    rw [List.getElem?_map, Option.map_eq_some_iff] at hn
    obtain ⟨x, hx, rfl⟩ := hn
    obtain ⟨y, hy, he⟩ := listEqN_get _ _ e ln _ hx
    exact lane_fin hy (Summ.of_run (fun w hw => CT_ok GT.nil w hw) he) hw k (.cons (.int _ _) .nil)
end
end Go.Run
