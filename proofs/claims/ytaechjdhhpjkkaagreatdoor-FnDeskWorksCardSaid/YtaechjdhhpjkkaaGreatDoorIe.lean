/- The law's own code: run but for what it reads of its argument. -/
import Derived.Test.YtaechjdhhpjkkaaGreatDoorId
import Derived.WalkKit
set_option linter.unusedVariables false
set_option linter.unusedSimpArgs false
namespace Go.Run
open Go Go.RowKit Go.Proofs
noncomputable section
def opsC : Code → Array Oper
  | .region _ ops false => ops
  | _ => #[]
def subC : Code → List Nat → Code
  | c, [] => c
  | .seq a _, 0 :: r => subC a r
  | .seq _ b, 1 :: r => subC b r
  | .cond _ a _, 0 :: r => subC a r
  | c, _ => c
def b3 : Code := match Tryz.f3.body with | some c => c | none => .skip
def r0 : Code := subC b3 [0]
def o1 : Array Oper := opsC (subC b3 [1, 0, 0])
def c1 : Code := subC b3 [1, 0, 1, 0]
def o3 : Array Oper := opsC (subC b3 [1, 1, 0])
def r4 : Code := subC b3 [1, 1, 1, 0]
def r5 : Code := subC b3 [1, 1, 1, 1, 0]
def r6 : Code := subC b3 [1, 1, 1, 1, 1, 0]
def o7 : Array Oper := opsC (subC b3 [1, 1, 1, 1, 1, 1, 0])
def r8 : Code := subC b3 [1, 1, 1, 1, 1, 1, 1, 0]
def asCall (f : Nat) : Rs → Option (List V)
  | .call g vs => bt (Nat.beq g f) (some vs)
  | _ => none
def opO (ops : Array Oper) (i : Nat) : Oper := match ops.toList.drop i with | o :: _ => o | [] => ⟨none, .move (.tmp 0), 0, "", #[], none⟩
def env0 (x : V) : Env := argE [x] 0 ⟨42, msk 3, [], .nil⟩
/-- The run, but for three calls. -/
def f3g (T : TypeId → Option E) (cf : CallF) (r0 r4 r5 r6 r8 : Code) (o1 o3 o7 : List Oper) (p1 p3 p7 : Op) (env : Env) (h : Hp) (vn : V) : Option (List V × List V × List V × V × V) :=
  ob (code T cf r0 env h) fun s0 => bt s0.isNormal (
  ob (listR T cf o1 (o1.take 1) s0.env s0.h) fun s1 =>
  ob (step T p1 s1.1 s1.2) fun q1 => ob (asCall 4 q1) fun u1 => ob ((putE s1.1 (.bool false) (some 9)).shut.get 9) fun c9 =>
  ob (listR T cf o3 (o3.take 1) (putE s1.1 (.bool false) (some 9)).shut s1.2) fun s3 =>
  ob (step T p3 s3.1 s3.2) fun q3 => ob (asCall 6 q3) fun u3 =>
  ob (listR T cf o3 (o3.drop 2) (putE s3.1 vn (some 11)) s3.2) fun t3 =>
  ob (code T cf r4 t3.1.shut t3.2) fun s4 => bt s4.isNormal (
  ob (code T cf r5 s4.env s4.h) fun s5 => bt s5.isNormal (
  ob (code T cf r6 s5.env s5.h) fun s6 => bt s6.isNormal (
  ob (listR T cf o7 (o7.take 3) s6.env s6.h) fun s7 =>
  ob (step T p7 s7.1 s7.2) fun q7 => ob (asCall 6 q7) fun u7 =>
  ob (listR T cf o7 (o7.drop 4) (putE s7.1 vn (some 28)) s7.2) fun t7 =>
  ob (code T cf r8 t7.1.shut t7.2) fun s8 => bt s8.isNormal (
  ob (s8.env.get 2) fun v => some (u1, u3, u7, c9, v))))))
def f3a (cf : CallF) (x vn : V) : Option (List V × List V × List V × V × V) := f3g (eOf Tryz.prog) cf r0 r4 r5 r6 r8 o1.toList o3.toList o7.toList (opO o1 1).op (opO o3 1).op (opO o7 3).op (env0 x) ⟨1, .nil⟩ vn
end
theorem shape3 : ∃ i1 i3 i7, Tryz.f3.body = some (.seq r0 (.seq (.seq (.region i1 o1 false) (.cond (.tmp 9) c1 .skip)) (.seq (.region i3 o3 false) (.seq r4 (.seq r5 (.seq r6 (.seq (.region i7 o7 false) (.seq r8 .ret)))))))) := ⟨1, 3, 7, by kernel_rfl⟩
section
variable {P : Program} {T : TypeId → Option E} {ln : Nat} {w0 : World} {U : Nat → Prop} {G : Gh} {h : Hp} {w : World} {env : Env} {a : Act} {cf : CallF}
/-- Some operations of a region, from one on. -/
theorem seg_ok (hT : TOk P T) (hcf : CfOk P ln w0 cf) {ops : Array Oper} {Q : Exit → Act → World → Prop} : ∀ (l : List Oper) (i m : Nat) (rest : List Oper), ops.toList.drop i = l ++ rest → l.length = m → ∀ (G : Gh) (env : Env) (h : Hp) (a : Act) (w : World) (env' : Env) (h' : Hp), HR ln w0 U G h w → EnvR ln G env a.tmps →
    listR T cf ops.toList l env h = some (env', h') → Fin P ln w0 U G a env' h' (fun a w => wpOps P ops Q (List.range' (i + m) (ops.size - (i + m))) a w) → wpOps P ops Q (List.range' i (ops.size - i)) a w
  | [], i, m, rest, hl, hm, G, env, h, a, w, env', h', k, hE, e, kk => by
    cases e
    have hm : m = 0 := hm.symm
    subst hm
    exact kk G a w (Gh.Le.refl G) hE rfl k
  | o :: r, i, m, rest, hl, hm, G, env, h, a, w, env', h', k, hE, e, kk => by
    have hi : i < ops.size := by
      apply Nat.lt_of_not_le
      intro hle
      rw [List.drop_eq_nil_of_le (by simpa using hle)] at hl
      cases hl
    have ho : ops[i]? = some o := by
      have : (ops.toList.drop i)[0]? = some o := by rw [hl]; rfl
      rw [List.getElem?_drop] at this
      simpa using this
    have hr : ops.toList.drop (i + 1) = r ++ rest := by
      rw [← List.drop_drop, hl]
      rfl
    obtain ⟨⟨e1, h1⟩, hone, e⟩ := ob_some (show ob (one T cf ops.toList o env h) (fun p => listR T cf ops.toList r p.1 p.2) = some (env', h') from e)
    obtain ⟨⟨v, h2⟩, hv, hone⟩ := ob_some hone
    cases hone
    rw [show ops.size - i = (ops.size - (i + 1)) + 1 by omega, List.range'_succ, wpOps_cons]
    unfold wpOp
    rw [ho]
    refine op_ok hT hcf k hE hv (fun H w' u g1 g2 g3 => ?_)
    have hm' : r.length = m - 1 := by have : r.length + 1 = m := hm; omega
    have hm1 : r.length + 1 = m := hm
    refine seg_ok hT hcf r (i + 1) (m - 1) rest hr hm' H _ _ _ w' env' h' g2 ((hE.mono g1).put o.dst g3) e (fun H2 a2 w2 q1 q2 q3 q4 => ?_)
    have := kk H2 a2 w2 (g1.trans q1) q2 (q3.trans (put_defers _ _ _)) q4
    rwa [show i + 1 + (m - 1) = i + m by omega]
/-- A call that is told by hand. -/
theorem hand_ok (hT : TOk P T) {ops : Array Oper} {Q : Exit → Act → World → Prop} {i : Nat} {o : Oper} (ho : ops[i]? = some o) (hg : o.guard = none) (k : HR ln w0 U G h w) (hE : EnvR ln G env a.tmps) {f : FuncId} {args : List V} (e : step T o.op env h = some (.call f args)) {v : V}
    (hc : ∀ vs, RepA ln G args vs → Callable P f ∧ Calls P f vs.toArray w fun e w' => ∃ vr, e = .returned vr ∧ RepV ln G v vr ∧ Below w.heap.size w w')
    (kk : Fin P ln w0 U G a (putE env v o.dst) h (fun a w => wpOps P ops Q (List.range' (i + 1) (ops.size - (i + 1))) a w)) : wpOps P ops Q (List.range' i (ops.size - i)) a w := by
  have hi : i < ops.size := (Array.getElem?_eq_some_iff.1 ho).1
  rw [show ops.size - i = (ops.size - (i + 1)) + 1 by omega, List.range'_succ, wpOps_cons]
  unfold wpOp
  rw [ho]
  have hw : Region.wanted o (yielded ops a.tmps) = true := by simp [Region.wanted, hg]
  show if Region.wanted o (yielded ops a.tmps) = true then _ else _
  rw [if_pos hw]
  refine .inl ?_
  have hgd := step_ok hT k hE e
  unfold Oper.wp
  obtain ⟨vs, q1, q2⟩ := hgd
  obtain ⟨hcl, hcalls⟩ := hc vs q1
  rw [q2, callFunc_enter hcl, Oper.upon_enter]
  refine hcalls.mono ?_
  rintro e w' ⟨vr, rfl, hr, hb⟩
  exact kk G _ w' (Gh.Le.refl G) (hE.put o.dst hr) (put_defers _ _ _) (k.frame hb)
theorem asCall_some {f : Nat} {r : Rs} {u : List V} (e : asCall f r = some u) : r = .call f u := by
  unfold asCall at e
  split at e
  · obtain ⟨h1, e⟩ := bt_some e
    cases e
    obtain rfl := beqN h1
    rfl
  · cases e
theorem isNormal_ex {r : Rt} (e : r.isNormal = true) : r.ex = .normal := by
  unfold Rt.isNormal at e
  split at e
  · assumption
  · cases e
/-- A region with a call that is told by hand. -/
theorem regH (hT : TOk P T) (hcf : CfOk P ln w0 cf) {id : Nat} {ops : Array Oper} {l1 l2 : List Oper} {o : Oper} (hs : ops.toList = l1 ++ o :: l2) (hg : o.guard = none) {s1 s2 : Env × Hp} {f : FuncId} {args : List V} {v : V}
    (k : HR ln w0 U G h w) (hE : EnvR ln G env a.tmps) (e1 : listR T cf ops.toList l1 env h = some s1) (q : step T o.op s1.1 s1.2 = some (.call f args))
    (hc : ∀ {H : Gh} {w : World}, G.Le H → Below w0.heap.size w0 w → ∀ vs, RepA ln H args vs → Callable P f ∧ Calls P f vs.toArray w fun e w' => ∃ vr, e = .returned vr ∧ RepV ln H v vr ∧ Below w.heap.size w w')
    (e2 : listR T cf ops.toList l2 (putE s1.1 v o.dst) s1.2 = some s2) {R : Exit → Act → World → Prop} (kk : Fin P ln w0 U G a s2.1.shut s2.2 (R .normal)) : (Code.region id ops false).wp P R a w := by
  refine wp_region ?_
  rw [List.range_eq_range']
  have hsz : ops.size = l1.length + (l2.length + 1) := by
    have := congrArg List.length hs
    simpa using this
  have ho : ops[l1.length]? = some o := by
    have : ops.toList[l1.length]? = some o := by rw [hs]; simp
    simpa using this
  refine seg_ok (U := U) hT hcf l1 0 l1.length (o :: l2) (by simpa using hs) rfl G env h a w s1.1 s1.2 k hE e1 ?_
  intro H1 a1 w1 g1 hE1 d1 k1
  rw [Nat.zero_add]
  refine hand_ok hT ho hg k1 hE1 q (hc g1 k1.below) ?_
  intro H2 a2 w2 g2 hE2 d2 k2
  have hr : ops.toList.drop (l1.length + 1) = l2 := by rw [hs]; simp
  exact list_ok (U := U) hT hcf l2 (l1.length + 1) hr H2 _ _ a2 w2 s2.1 s2.2 k2 hE2 e2 fun H3 a3 w3 g3 hE3 d3 k3 => kk H3 a3 w3 ((g1.trans g2).trans g3) hE3.shut ((d3.trans d2).trans d1) k3
theorem wp_condF {c : Operand} {a : Act} {w : World} {c1 c2 : Code} {R : Exit → Act → World → Prop} (hE : EnvR ln G env a.tmps) (e : env.get 9 = some (.bool false)) (hc : c = .tmp 9) (h : c2.wp P R a w) : (Code.cond c c1 c2).wp P R a w := by
  subst hc
  have hv := ev_ok hE (x := .tmp 9) (show ev env (.tmp 9) = some (.bool false) from e)
  have hcv : a.eval (.tmp 9) = .bool false := by generalize a.eval (.tmp 9) = q at hv; cases hv; rfl
  exact wp_cond hcv h
/-- The law's code, whatever its pieces. -/
theorem walk3 (hT : TOk P T) (hcf : CfOk P ln w0 cf) (hm : P.follows .mixedOrders = true) {r0 c1 r4 r5 r6 r8 : Code} {o1 o3 o7 : Array Oper} {i1 i3 i7 : Nat} {p1 p3 p7 : Oper} {x vn : V}
    (k : HR ln w0 U G h w) (hE : EnvR ln G env a.tmps) {s0 s4 s5 s6 s8 : Rt} {s1 s3 t3 s7 t7 : Env × Hp}
    (x1 : o1.toList = o1.toList.take 1 ++ p1 :: []) (x3 : o3.toList = o3.toList.take 1 ++ p3 :: o3.toList.drop 2) (x7 : o7.toList = o7.toList.take 3 ++ p7 :: o7.toList.drop 4)
    (g1 : p1.guard = none) (g3 : p3.guard = none) (g7 : p7.guard = none) (d1 : p1.dst = some 9) (d3 : p3.dst = some 11) (d7 : p7.dst = some 28)
    (hc4 : ∀ {H : Gh} {w : World}, G.Le H → Below w0.heap.size w0 w → ∀ vs, RepA ln H [x] vs → Callable P 4 ∧ Calls P 4 vs.toArray w fun e w' => ∃ vr, e = .returned vr ∧ RepV ln H (.bool false) vr ∧ Below w.heap.size w w')
    (hc6 : ∀ {H : Gh} {w : World}, G.Le H → Below w0.heap.size w0 w → ∀ vs, RepA ln H [x, .int .i64 0] vs → Callable P 6 ∧ Calls P 6 vs.toArray w fun e w' => ∃ vr, e = .returned vr ∧ RepV ln H vn vr ∧ Below w.heap.size w w')
    (e0 : code T cf r0 env h = some s0) (n0 : s0.isNormal = true) (e1 : listR T cf o1.toList (o1.toList.take 1) s0.env s0.h = some s1) (q1 : step T p1.op s1.1 s1.2 = some (.call 4 [x]))
    (c9 : (putE s1.1 (.bool false) (some 9)).shut.get 9 = some (.bool false))
    (e3 : listR T cf o3.toList (o3.toList.take 1) (putE s1.1 (.bool false) (some 9)).shut s1.2 = some s3) (q3 : step T p3.op s3.1 s3.2 = some (.call 6 [x, .int .i64 0]))
    (f3 : listR T cf o3.toList (o3.toList.drop 2) (putE s3.1 vn (some 11)) s3.2 = some t3)
    (e4 : code T cf r4 t3.1.shut t3.2 = some s4) (n4 : s4.isNormal = true) (e5 : code T cf r5 s4.env s4.h = some s5) (n5 : s5.isNormal = true) (e6 : code T cf r6 s5.env s5.h = some s6) (n6 : s6.isNormal = true)
    (e7 : listR T cf o7.toList (o7.toList.take 3) s6.env s6.h = some s7) (q7 : step T p7.op s7.1 s7.2 = some (.call 6 [x, .int .i64 0]))
    (f7 : listR T cf o7.toList (o7.toList.drop 4) (putE s7.1 vn (some 28)) s7.2 = some t7) (e8 : code T cf r8 t7.1.shut t7.2 = some s8) (n8 : s8.isNormal = true)
    {R : Exit → Act → World → Prop} (kk : Fin P ln w0 U G a s8.env s8.h (R .ret)) :
    (Code.seq r0 (.seq (.seq (.region i1 o1 false) (.cond (.tmp 9) c1 .skip)) (.seq (.region i3 o3 false) (.seq r4 (.seq r5 (.seq r6 (.seq (.region i7 o7 false) (.seq r8 .ret)))))))).wp P R a w := by
  refine wp_seq (code_ok (U := U) hT hcf hm r0 e0 k hE ?_)
  rw [isNormal_ex n0]
  intro H0 a0 w1 l0 E0 D0 K0
  refine wp_seq (wp_seq (regH (U := U) hT hcf (v := .bool false) x1 g1 K0 E0 e1 q1 (fun hle => hc4 (l0.trans hle)) (by rw [d1]; rfl) ?_))
  intro H1 a1 w2 l1 E1 D1 K1
  refine wp_condF E1 c9 rfl (wp_skip ?_)
  have L1 := l0.trans l1
  refine wp_seq (regH (U := U) hT hcf (v := vn) x3 g3 K1 E1 e3 q3 (fun hle => hc6 (L1.trans hle)) (by rw [d3]; exact f3) ?_)
  intro H3 a3 w3 l3 E3 D3 K3
  have L3 := L1.trans l3
  refine wp_seq (code_ok (U := U) hT hcf hm r4 e4 K3 E3 ?_)
  rw [isNormal_ex n4]
  intro H4 a4 w4 l4 E4 D4 K4
  refine wp_seq (code_ok (U := U) hT hcf hm r5 e5 K4 E4 ?_)
  rw [isNormal_ex n5]
  intro H5 a5 w5 l5 E5 D5 K5
  refine wp_seq (code_ok (U := U) hT hcf hm r6 e6 K5 E5 ?_)
  rw [isNormal_ex n6]
  intro H6 a6 w6 l6 E6 D6 K6
  have L6 := ((L3.trans l4).trans l5).trans l6
  refine wp_seq (regH (U := U) hT hcf (v := vn) x7 g7 K6 E6 e7 q7 (fun hle => hc6 (L6.trans hle)) (by rw [d7]; exact f7) ?_)
  intro H7 a7 w7 l7 E7 D7 K7
  refine wp_seq (code_ok (U := U) hT hcf hm r8 e8 K7 E7 ?_)
  rw [isNormal_ex n8]
  intro H8 a8 w8 l8 E8 D8 K8
  exact wp_ret (kk H8 a8 w8 ((L6.trans l7).trans l8) E8 (D8.trans (D7.trans (D6.trans (D5.trans (D4.trans (D3.trans (D1.trans D0))))))) K8)
/-- .. run as told. -/
theorem walkG (hT : TOk P T) (hcf : CfOk P ln w0 cf) (hm : P.follows .mixedOrders = true) {r0 c1 r4 r5 r6 r8 : Code} {o1 o3 o7 : Array Oper} {i1 i3 i7 : Nat} {p1 p3 p7 : Oper} {x vn : V}
    (k : HR ln w0 U G h w) (hE : EnvR ln G env a.tmps)
    (x1 : o1.toList = o1.toList.take 1 ++ p1 :: []) (x3 : o3.toList = o3.toList.take 1 ++ p3 :: o3.toList.drop 2) (x7 : o7.toList = o7.toList.take 3 ++ p7 :: o7.toList.drop 4)
    (g1 : p1.guard = none) (g3 : p3.guard = none) (g7 : p7.guard = none) (d1 : p1.dst = some 9) (d3 : p3.dst = some 11) (d7 : p7.dst = some 28)
    (hc4 : ∀ {H : Gh} {w : World}, G.Le H → Below w0.heap.size w0 w → ∀ vs, RepA ln H [x] vs → Callable P 4 ∧ Calls P 4 vs.toArray w fun e w' => ∃ vr, e = .returned vr ∧ RepV ln H (.bool false) vr ∧ Below w.heap.size w w')
    (hc6 : ∀ {H : Gh} {w : World}, G.Le H → Below w0.heap.size w0 w → ∀ vs, RepA ln H [x, .int .i64 0] vs → Callable P 6 ∧ Calls P 6 vs.toArray w fun e w' => ∃ vr, e = .returned vr ∧ RepV ln H vn vr ∧ Below w.heap.size w w')
    (e : f3g T cf r0 r4 r5 r6 r8 o1.toList o3.toList o7.toList p1.op p3.op p7.op env h vn = some ([x], [x, .int .i64 0], [x, .int .i64 0], .bool false, .bool true))
    {R : Exit → Act → World → Prop} (kk : ∀ H a' w' env' h', G.Le H → EnvR ln H env' a'.tmps → env'.get 2 = some (.bool true) → a'.defers = a.defers → HR ln w0 U H h' w' → R .ret a' w') :
    (Code.seq r0 (.seq (.seq (.region i1 o1 false) (.cond (.tmp 9) c1 .skip)) (.seq (.region i3 o3 false) (.seq r4 (.seq r5 (.seq r6 (.seq (.region i7 o7 false) (.seq r8 .ret)))))))).wp P R a w := by
  obtain ⟨s0, e0, e⟩ := ob_some e
  obtain ⟨n0, e⟩ := bt_some e
  obtain ⟨s1, e1, e⟩ := ob_some e
  obtain ⟨q1, eq1, e⟩ := ob_some e
  obtain ⟨u1, eu1, e⟩ := ob_some e
  obtain ⟨c9, ec9, e⟩ := ob_some e
  obtain ⟨s3, e3, e⟩ := ob_some e
  obtain ⟨q3, eq3, e⟩ := ob_some e
  obtain ⟨u3, eu3, e⟩ := ob_some e
  obtain ⟨t3, et3, e⟩ := ob_some e
  obtain ⟨s4, e4, e⟩ := ob_some e
  obtain ⟨n4, e⟩ := bt_some e
  obtain ⟨s5, e5, e⟩ := ob_some e
  obtain ⟨n5, e⟩ := bt_some e
  obtain ⟨s6, e6, e⟩ := ob_some e
  obtain ⟨n6, e⟩ := bt_some e
  obtain ⟨s7, e7, e⟩ := ob_some e
  obtain ⟨q7, eq7, e⟩ := ob_some e
  obtain ⟨u7, eu7, e⟩ := ob_some e
  obtain ⟨t7, et7, e⟩ := ob_some e
  obtain ⟨s8, e8, e⟩ := ob_some e
  obtain ⟨n8, e⟩ := bt_some e
  obtain ⟨r, er, e⟩ := ob_some e
  cases e
  obtain rfl := asCall_some eu1
  obtain rfl := asCall_some eu3
  obtain rfl := asCall_some eu7
  exact walk3 hT hcf hm k hE x1 x3 x7 g1 g3 g7 d1 d3 d7 hc4 hc6 e0 n0 e1 eq1 ec9 e3 eq3 et3 e4 n4 e5 n5 e6 n6 e7 eq7 et7 e8 n8 fun H a' w' g1 g2 g3 g4 => kk H a' w' _ _ g1 g2 er g3 g4
end
end Go.Run
