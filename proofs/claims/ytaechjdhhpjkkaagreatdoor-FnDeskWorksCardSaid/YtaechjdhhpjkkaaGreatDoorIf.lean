/- The law's own code, at the program. -/
import Derived.Test.YtaechjdhhpjkkaaGreatDoorIe
set_option linter.unusedVariables false
set_option linter.unusedSimpArgs false
namespace Go.Run
open Go Go.RowKit Go.Proofs
section
variable {ln : Nat} {w0 : World} {G : Gh} {w : World}
theorem dst1 : (opO o1 1).dst = some 9 := by kernel_rfl
theorem dst3 : (opO o3 1).dst = some 11 := by kernel_rfl
theorem dst7 : (opO o7 3).dst = some 28 := by kernel_rfl
theorem gd1 : (opO o1 1).guard = none := by kernel_rfl
theorem gd3 : (opO o3 1).guard = none := by kernel_rfl
theorem gd7 : (opO o7 3).guard = none := by kernel_rfl
theorem sp1 : o1.toList = o1.toList.take 1 ++ opO o1 1 :: [] := by kernel_rfl
theorem sp3 : o3.toList = o3.toList.take 1 ++ opO o3 1 :: o3.toList.drop 2 := by kernel_rfl
theorem sp7 : o7.toList = o7.toList.take 3 ++ opO o7 3 :: o7.toList.drop 4 := by kernel_rfl
theorem res3 : Tryz.f3.results = #[.tmp 2] := by kernel_rfl
theorem nt3 : Tryz.f3.ntmps = 42 := by kernel_rfl
theorem call4 : Callable Tryz.prog 4 := ⟨Tryz.f4, Tryz.func4, by kernel_rfl, by kernel_rfl⟩
theorem call6 : Callable Tryz.prog 6 := ⟨Tryz.f6, Tryz.func6, by kernel_rfl, by kernel_rfl⟩
theorem mixed : Tryz.prog.follows .mixedOrders = true := by kernel_rfl
theorem env_one {m K : Nat} (hm : m = 42) {x : V} {v : Value} (rx : RepV ln G x v) : EnvR ln G (argE [x] 0 ⟨42, K, [], .nil⟩) (#[v] ++ Array.replicate (m - (#[v] : Array Value).size) undef) := by
  subst hm
  have hE0 : EnvR ln G ⟨42, K, [], .nil⟩ (#[v] ++ Array.replicate (42 - (#[v] : Array Value).size) undef) := by
    refine ⟨by simp, by show 42 ≤ 4000; omega, fun t x hx => ?_⟩
    rw [empty_get] at hx
    cases hx
  exact (arg_ok [x] 0 ⟨42, K, [], .nil⟩ hE0 fun j y hy => by
    cases j with
    | zero => cases hy; exact ⟨v, by simp, rx⟩
    | succ j => simp at hy).1
theorem env_three {x : V} {v : Value} (rx : RepV ln G x v) : EnvR ln G (env0 x) (#[v] ++ Array.replicate (Tryz.f3.ntmps - (#[v] : Array Value).size) undef) := by
  generalize hm : Tryz.f3.ntmps = m
  have hm2 : m = 42 := hm.symm.trans nt3
  unfold env0
  generalize msk 3 = K
  exact env_one hm2 rx
/-- The law, run. -/
theorem f3_ok {tab : List (Nat × List Sm)} (ht : GT ln tab) (hw0 : OkW w0) (k : HR ln w0 (fun _ => False) G ⟨1, .nil⟩ w) {x vn : V} {v : Value} {n : Int} (rx : RepV ln G x v) (hn : RepV ln G vn (.int .i64 n)) (huniq : ∀ H u, G.Le H → RepV ln H x u → u = v)
    (h4 : ∀ w, Calls Tryz.prog 4 #[v] w fun e w' => e = .returned (.bool false) ∧ w' = w) (h6 : ∀ w, Below w0.heap.size w0 w → Calls Tryz.prog 6 #[v, .int .i64 0] w fun e w' => e = .returned (.int .i64 n) ∧ w' = w)
    (e : f3a (CT tab) x vn = some ([x], [x, .int .i64 0], [x, .int .i64 0], .bool false, .bool true)) :
    Calls Tryz.prog 3 #[v] w fun e w' => e = .returned (.bool true) ∧ Below w0.heap.size w0 w' := by
  obtain ⟨i1, i3, i7, hb⟩ := shape3
  have key : ∀ {a : Act}, EnvR ln G (env0 x) a.tmps → ∀ {R : Exit → Act → World → Prop}, (∀ H a' w' env' h', G.Le H → EnvR ln H env' a'.tmps → env'.get 2 = some (.bool true) → a'.defers = a.defers → HR ln w0 (fun _ => False) H h' w' → R .ret a' w') → (Code.seq r0 (.seq (.seq (.region i1 o1 false) (.cond (.tmp 9) c1 .skip)) (.seq (.region i3 o3 false) (.seq r4 (.seq r5 (.seq r6 (.seq (.region i7 o7 false) (.seq r8 .ret)))))))).wp Tryz.prog R a w := fun {a} hE {R} kk => by
    refine walkG (U := fun _ => False) (x := x) (vn := vn) eOf_ok (CT_ok ht w0 hw0) mixed k hE sp1 sp3 sp7 gd1 gd3 gd7 dst1 dst3 dst7 (fun hle _ vs hA => ?_) (fun hle hb vs hA => ?_) e kk
    · obtain ⟨u, rfl, hu⟩ := hA.one
      obtain rfl := huniq _ _ hle hu
      exact ⟨call4, (h4 _).mono fun e w' ⟨he, hw⟩ => ⟨_, he, .bool _, hw ▸ Below.refl _ _⟩⟩
    · obtain ⟨u, i, rfl, hu, hi⟩ := hA.two
      obtain rfl := huniq _ _ hle hu
      cases hi
      exact ⟨call6, (h6 _ hb).mono fun e w' ⟨he, hw⟩ => ⟨_, he, hn.mono hle, hw ▸ Below.refl _ _⟩⟩
  have hE := env_three rx
  generalize ht' : (#[v] ++ Array.replicate (Tryz.f3.ntmps - (#[v] : Array Value).size) undef) = tm at hE
  refine calls_of_wp Tryz.func3 hb ?_
  rw [ht']
  refine key (a := ⟨tm, []⟩) hE ?_
  intro H a' w' env' h' _ hE' h2 hd k'
  obtain ⟨u, hu, hr⟩ := hE'.rep 2 _ h2
  have hub : u = .bool true := by cases hr; rfl
  have hres : (results Tryz.f3 a'.tmps).run Tryz.prog w' = .ok (.bool true) w' := by
    unfold results
    rw [res3]
    simp
    rw [hu, hub]
    rfl
  have fin : a'.defers = [] ∧ ∃ v, (results Tryz.f3 a'.tmps).run Tryz.prog w' = .ok v w' ∧ Ending.returned v = .returned (.bool true) ∧ Below w0.heap.size w0 w' := ⟨hd, .bool true, hres, rfl, k'.below⟩
  exact fin
end
end Go.Run
