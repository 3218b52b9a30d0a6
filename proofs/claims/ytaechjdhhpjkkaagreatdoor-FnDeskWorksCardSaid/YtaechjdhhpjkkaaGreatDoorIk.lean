/- The law at every number that it may read. -/
import Derived.Test.YtaechjdhhpjkkaaGreatDoorGa
import Derived.Test.YtaechjdhhpjkkaaGreatDoorGb
import Derived.Test.YtaechjdhhpjkkaaGreatDoorGc
import Derived.Test.YtaechjdhhpjkkaaGreatDoorGd
import Derived.Test.YtaechjdhhpjkkaaGreatDoorGe
import Derived.Test.YtaechjdhhpjkkaaGreatDoorIg
import Derived.Shelf.Vars
import Derived.Stop.LaidErr
set_option linter.unusedVariables false
set_option linter.unusedSimpArgs false
namespace Go.Run
open Go Go.RowKit Go.Proofs
section
variable {W : World}
def g0 (p o cap : Nat) : Gh := fun b => if b = 0 then some ⟨p, o, o + cap, 1⟩ else none
theorem hr0 {ln p o cap : Nat} (hp : p < W.heap.size) : HR ln W (fun _ => False) (g0 p o cap) ⟨1, .nil⟩ W := by
  refine ⟨fun b x hx => (by cases hx), fun b x hx => (by cases hx), fun b y hy => ?_, fun b c x z y q hx => (by cases hx), (by show 1 ≤ 1000000; omega), Nat.le_refl _, Below.refl _ _, fun b hb => hb.elim⟩
  unfold g0 at hy
  split at hy
  · rename_i e
    cases hy
    exact ⟨by show b < 1; omega, hp⟩
  · cases hy
theorem hrN {ln : Nat} : HR ln W (fun _ => False) (fun _ => none) ⟨1, .nil⟩ W :=
  ⟨fun b x hx => (by cases hx), fun b x hx => (by cases hx), fun b y hy => (by cases hy), fun b c x z y q hx => (by cases hx), (by show 1 ≤ 1000000; omega), Nat.le_refl _, Below.refl _ _, fun b hb => hb.elim⟩
theorem f4_small {a : Option Addr} {len cap : Nat} (hl : len ≤ 1048576) (w : World) : Calls Tryz.prog 4 #[.slice a len cap] w fun e w' => e = .returned (.bool false) ∧ w' = w := by
  have := YtaechjdhhpjkkaaGreatDoor.f4_calls a len cap w (by omega)
  rw [decide_eq_false (show ¬ (1048576 < (len : Int)) by omega)] at this
  exact this
/-- One lane. -/
theorem lane_go {ln n p o len cap : Nat} {tab : List (Nat × List Sm)} {vn : V} (ht : GT ln tab) (hw : OkW W) (hp : p < W.heap.size) (hlen : len ≤ 1048576) (hlc : len ≤ cap)
    (h6 : ∀ w, Below W.heap.size W w → Calls Tryz.prog 6 #[.slice (some ⟨p, o, none⟩) len cap, .int .i64 0] w fun e w' => e = .returned (.int .i64 n) ∧ w' = w) (hn : RepV ln (g0 p o cap) vn (.int .i64 n))
    (e : f3a (CT tab) (.sl 0 0 len) vn = some ([.sl 0 0 len], [.sl 0 0 len, .int .i64 0], [.sl 0 0 len, .int .i64 0], .bool false, .bool true)) :
    Calls Tryz.prog 3 #[.slice (some ⟨p, o, none⟩) len cap] W fun e w' => e = .returned (.bool true) ∧ Below W.heap.size W w' := by
  refine f3_ok ht hw (hr0 hp) (x := .sl 0 0 len) (vn := vn) (n := n) ?_ hn (fun H u hle hu => ?_) (fun w => f4_small hlen w) h6 e
  · have := RepV.sl (ln := ln) (G := g0 p o cap) (b := 0) (off := 0) (len := len) (cap := cap) (y := ⟨p, o, o + cap, 1⟩) rfl (by show o + 0 + cap * 1 = o + cap; omega) hlc
    exact this
  · obtain ⟨y, c, h1, h2, _, rfl⟩ := hu.of_sl
    rw [hle 0 ⟨p, o, o + cap, 1⟩ rfl] at h1
    cases h1
    have h2 : o + 0 + c * 1 = o + cap := h2
    obtain rfl : c = cap := by omega
    rfl
theorem lanes_at {G : Gh} {K base n : Nat} (h1 : base ≤ n) (h2 : n < base + K) : RepV (n - base) G (.ivec .i64 ((List.range K).map fun i => Int.ofNat (Nat.add i base))) (.int .i64 (n : Int)) := by
  refine .ivec ?_
  rw [List.getElem?_map, List.getElem?_range (by omega)]
  show some (Int.ofNat (n - base + base)) = some (n : Int)
  rw [Nat.sub_add_cancel h1]
  rfl
theorem law_sl {n p o len cap : Nat} (hw : OkW W) (hp : p < W.heap.size) (hlen : len ≤ 1048576) (hlc : len ≤ cap) (hn : n < 256)
    (h6 : ∀ w, Below W.heap.size W w → Calls Tryz.prog 6 #[.slice (some ⟨p, o, none⟩) len cap, .int .i64 0] w fun e w' => e = .returned (.int .i64 n) ∧ w' = w) :
    Calls Tryz.prog 3 #[.slice (some ⟨p, o, none⟩) len cap] W fun e w' => e = .returned (.bool true) ∧ Below W.heap.size W w' := by
  rcases Nat.lt_or_ge n 9 with h1 | h1
  · exact lane_go (ln := n - 0) Ga.g_T4 hw hp hlen hlc h6 (lanes_at (K := 9) (Nat.zero_le _) (by omega)) (Ga.run len)
  · rcases Nat.lt_or_ge n 10 with h2 | h2
    · obtain rfl : n = 9 := by omega
      exact lane_go (ln := 0) Gd.g_T4 hw hp hlen hlc h6 (.int _ _) (Gd.run len)
    · rcases Nat.lt_or_ge n 99 with h3 | h3
      · exact lane_go (ln := n - 10) Gb.g_T4 hw hp hlen hlc h6 (lanes_at (K := 89) h2 (by omega)) (Gb.run len)
      · rcases Nat.lt_or_ge n 100 with h4 | h4
        · obtain rfl : n = 99 := by omega
          exact lane_go (ln := 0) Ge.g_T4 hw hp hlen hlc h6 (.int _ _) (Ge.run len)
        · exact lane_go (ln := n - 100) Gc.g_T4 hw hp hlen hlc h6 (lanes_at (K := 156) h4 (by omega)) (Gc.run len)
theorem law_nil (hw : OkW W) : Calls Tryz.prog 3 #[.slice none 0 0] W fun e w' => e = .returned (.bool true) ∧ Below W.heap.size W w' := by
  refine f3_ok (ln := 0) (n := 0) Ga.g_T4 hw hrN (x := .nils) (vn := Ga.vn) .nils ?_ (fun H u _ hu => by cases hu; rfl) (fun w => f4_small (by omega) w) (fun w _ => YtaechjdhhpjkkaaGreatDoor.f6_nil none 0 w) Ga.runN
  exact lanes_at (K := 9) (base := 0) (n := 0) (Nat.le_refl _) (by omega)
end
end Go.Run
