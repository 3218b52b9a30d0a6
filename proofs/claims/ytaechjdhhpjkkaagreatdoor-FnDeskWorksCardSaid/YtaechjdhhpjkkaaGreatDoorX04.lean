/- A meaning by run: primitives: bytes looked for and counted. -/
import Derived.Test.YtaechjdhhpjkkaaGreatDoorX03
import Derived.Lib.Bytealg
import Derived.Lib.ItoaNum
import Derived.Lib.Join
import Derived.Lib.AtoiAll
import Derived.Lib.Replace
set_option linter.unusedVariables false
set_option linter.unusedSimpArgs false
namespace Go.Run
open Go Go.RowKit
noncomputable section
/-- Numbers, lane by lane; one where all are the same. -/
def lanesI (k : IntKind) (l : List Int) : V := List.rec (.ivec k l) (fun x r _ => Bool.rec (.ivec k l) (.int k x) (allB (intEq x) r)) l
/-- A number, reckoned ahead. -/
def fN {α : Type} (n : Nat) (k : Nat → α) : α := Nat.rec (k 0) (fun m _ => k (Nat.succ m)) n
theorem fN_eq {α : Type} (n : Nat) (k : Nat → α) : fN n k = k n := by cases n <;> rfl
def idxB (c n : Nat) : Nat → Nat → Int := Nat.rec (motive := fun _ => Nat → Nat → Int) (fun _ _ => .negSucc 0) (fun _ ih s i => Bool.rec (fN (Nat.div s 256) fun s => fN i fun i => ih s (Nat.succ i)) (.ofNat i) (Nat.beq (Nat.mod s 256) c)) n
def cntB (c n : Nat) : Nat → Nat → Nat := Nat.rec (motive := fun _ => Nat → Nat → Nat) (fun _ k => k) (fun _ ih s k => fN (Nat.div s 256) fun s' => Bool.rec (ih s' k) (fN k fun k => ih s' (Nat.succ k)) (Nat.beq (Nat.mod s 256) c)) n
def idxP : Prim := fun vs h => match vs with
  | [.str n s, .int .u8 (.ofNat c)] => bt (Nat.blt c 256) (some (.int .i64 (idxB c n s 0), h))
  | [.svec n l, .int .u8 (.ofNat c)] => bt (Nat.blt c 256) (some (lanesI .i64 (l.map fun s => idxB c n s 0), h))
  | [.str n s, .ivec .u8 l] => ob (natsB l) fun cs => some (lanesI .i64 (cs.map fun c => idxB c n s 0), h)
  | _ => none
def cntP : Prim := fun vs h => match vs with
  | [.str n s, .int .u8 (.ofNat c)] => bt (Nat.blt c 256) (some (.int .i64 (.ofNat (cntB c n s 0)), h))
  | [.svec n l, .int .u8 (.ofNat c)] => bt (Nat.blt c 256) (some (lanesI .i64 (l.map fun s => .ofNat (cntB c n s 0)), h))
  | _ => none
end
/-- A primitive does what the function does. -/
def PrimOk (P : Program) (ln : Nat) (w0 : World) (f : FuncId) (p : Prim) : Prop := ∀ (U : Nat → Prop) (G : Gh) (h : Hp) (w : World) (args : List V) (vs : List Value) (v : V) (h' : Hp), HR ln w0 U G h w → RepA ln G args vs → p args h = some (v, h') →
  Does P f vs.toArray w fun vr w' => ∃ H, G.Le H ∧ RepV ln H v vr ∧ HR ln w0 U H h' w'
section
variable {P : Program} {ln : Nat} {w0 : World} {U : Nat → Prop} {G : Gh} {h : Hp} {w : World}
theorem lanesI_ok {k : IntKind} {l : List Int} {x : Int} (hx : l[ln]? = some x) : RepV ln G (lanesI k l) (.int k x) := by
  cases l with
  | nil => simp at hx
  | cons y r =>
    show RepV ln G (Bool.rec (.ivec k (y :: r)) (.int k y) (allB (intEq y) r)) _
    cases hq : allB (intEq y) r with
    | false => exact .ivec hx
    | true =>
      have : y = x := by
        cases ln with
        | zero => cases hx; rfl
        | succ n => exact intEq_true (allB_all r hq x (List.mem_of_getElem? (by simpa using hx)))
      rw [this]
      exact .int _ _
theorem enc_mod (b : UInt8) (l : List UInt8) : Nat.mod (encL (b :: l)) 256 = b.toNat := by
  show (b.toNat + 256 * encL l) % 256 = _
  have := b.toNat_lt
  omega
theorem enc_div (b : UInt8) (l : List UInt8) : Nat.div (encL (b :: l)) 256 = encL l := by
  show (b.toNat + 256 * encL l) / 256 = _
  have := b.toNat_lt
  omega
theorem idxB_eq (c : UInt8) : ∀ (l : List UInt8) (i : Nat), idxB c.toNat l.length (encL l) i = if Lib.indexByte l c = -1 then -1 else (i : Int) + Lib.indexByte l c
  | [], i => by
    have : Lib.indexByte [] c = -1 := rfl
    rw [this, if_pos rfl]
    rfl
  | b :: l, i => by
    have hcons : Lib.indexByte (b :: l) c = if b == c then 0 else if Lib.indexByte l c == -1 then -1 else Lib.indexByte l c + 1 := rfl
    rw [hcons]
    show (Bool.rec (fN (Nat.div (encL (b :: l)) 256) fun s => fN i fun i => idxB c.toNat l.length s (Nat.succ i)) (i : Int) (Nat.beq (Nat.mod (encL (b :: l)) 256) c.toNat) : Int) = _
    simp only [fN_eq]
    rw [enc_mod, enc_div, idxB_eq c l (i + 1)]
    by_cases e : b = c
    · subst e
      rw [show Nat.beq b.toNat b.toNat = true from Nat.beq_refl _]
      simp
    · have hne : b.toNat ≠ c.toNat := fun h => e (UInt8.toNat_inj.1 h)
      rw [show Nat.beq b.toNat c.toNat = false from by cases hq : Nat.beq b.toNat c.toNat with | false => rfl | true => exact absurd (beqN hq) hne]
      have hb : (b == c) = false := by simpa using e
      have hge := Lib.indexByte_ge l c
      simp only [hb]
      by_cases h1 : Lib.indexByte l c = -1
      · simp [h1]
      · have h2 : (Lib.indexByte l c == -1) = false := by simpa using h1
        rw [if_neg h1]
        simp only [h2]
        rw [if_neg (by simp; omega)]
        simp
        omega
theorem cntB_eq (c : UInt8) : ∀ (l : List UInt8) (k : Nat), cntB c.toNat l.length (encL l) k = k + Lib.countByte l c
  | [], k => rfl
  | b :: l, k => by
    show fN (Nat.div (encL (b :: l)) 256) (fun s' => (Bool.rec (cntB c.toNat l.length s' k) (fN k fun k => cntB c.toNat l.length s' (Nat.succ k)) (Nat.beq (Nat.mod (encL (b :: l)) 256) c.toNat) : Nat)) = _
    simp only [fN_eq]
    rw [enc_mod, enc_div, cntB_eq c l, cntB_eq c l]
    unfold Lib.countByte
    rw [List.count_cons]
    by_cases e : b = c
    · subst e
      rw [show Nat.beq b.toNat b.toNat = true from Nat.beq_refl _]
      simp
      omega
    · have hne : b.toNat ≠ c.toNat := fun h => e (UInt8.toNat_inj.1 h)
      rw [show Nat.beq b.toNat c.toNat = false from by cases hq : Nat.beq b.toNat c.toNat with | false => rfl | true => exact absurd (beqN hq) hne]
      simp [e]
theorem byte_of {c : Nat} (hc : c < 256) : (((c : Int).toNat).toUInt8).toNat = c := by
  show (UInt8.ofNat c).toNat = c
  simp
  omega
theorem idxP_ok {f : FuncId} (hf : ∀ (s : ByteArray) (c : Int) (w : World), (callFunc f #[.string s, .int .u8 c]).run P w = (do pure (Next.value (← Extern.BytealgIndexByte.indexByte #[.string s, .int .u8 c])) : Sem Next).run P w) : PrimOk P ln w0 f idxP := by
  intro U G h w args vs v h' k hA e
  have main : ∀ (s : ByteArray) (c : Nat), c < 256 → (callFunc f #[.string s, .int .u8 c]).run P w = .ok (.value (.int .i64 (idxB c s.data.toList.length (encL s.data.toList) 0))) w := fun s c hc => by
    rw [hf, Sem.run_bind, Lib.run_indexByteString]
    have := idxB_eq (((c : Int).toNat).toUInt8) s.data.toList 0
    rw [byte_of hc] at this
    rw [this]
    by_cases h1 : Lib.indexByte s.data.toList (((c : Int).toNat).toUInt8) = -1
    · rw [if_pos h1, h1]; rfl
    · rw [if_neg h1]; simp
  unfold idxP at e
  split at e
  · rename_i n s c
    obtain ⟨hc, e⟩ := bt_some e
    cases e
    obtain ⟨sv, cv, rfl, rs, rc⟩ := hA.two
    cases rc
    cases rs with
    | str z h1 h2 =>
      refine .inr ⟨_, w, main z c (blt_lt hc), G, Gh.Le.refl G, ?_, k⟩
      rw [h1, h2]
      exact .int _ _
  · rename_i n l c
    obtain ⟨hc, e⟩ := bt_some e
    cases e
    obtain ⟨sv, cv, rfl, rs, rc⟩ := hA.two
    cases rc
    cases rs with
    | svec z h1 h2 =>
      refine .inr ⟨_, w, main z c (blt_lt hc), G, Gh.Le.refl G, lanesI_ok ?_, k⟩
      rw [List.getElem?_map, h2, h1]
      rfl
  · rename_i n s l
    obtain ⟨cs, hcs, e⟩ := ob_some e
    cases e
    obtain ⟨sv, cv, rfl, rs, rc⟩ := hA.two
    cases rc with
    | ivec hx =>
      obtain ⟨m, rfl, hm, hcm⟩ := natsB_get hcs ln _ hx
      cases rs with
      | str z h1 h2 =>
        refine .inr ⟨_, w, main z m hm, G, Gh.Le.refl G, lanesI_ok ?_, k⟩
        rw [List.getElem?_map, hcm, h2, h1]
        rfl
  · cases e
theorem cntP_ok {f : FuncId} (hf : ∀ (s : ByteArray) (c : Int) (w : World), (callFunc f #[.string s, .int .u8 c]).run P w = (do pure (Next.value (← Extern.BytealgCount.count #[.string s, .int .u8 c])) : Sem Next).run P w) : PrimOk P ln w0 f cntP := by
  intro U G h w args vs v h' k hA e
  have main : ∀ (s : ByteArray) (c : Nat), c < 256 → (callFunc f #[.string s, .int .u8 c]).run P w = .ok (.value (.int .i64 ((cntB c s.data.toList.length (encL s.data.toList) 0 : Nat) : Int))) w := fun s c hc => by
    rw [hf, Sem.run_bind, Lib.run_countString]
    have := cntB_eq (((c : Int).toNat).toUInt8) s.data.toList 0
    rw [byte_of hc] at this
    rw [this, Nat.zero_add]
    rfl
  unfold cntP at e
  split at e
  · rename_i n s c
    obtain ⟨hc, e⟩ := bt_some e
    cases e
    obtain ⟨sv, cv, rfl, rs, rc⟩ := hA.two
    cases rc
    cases rs with
    | str z h1 h2 =>
      refine .inr ⟨_, w, main z c (blt_lt hc), G, Gh.Le.refl G, ?_, k⟩
      rw [h1, h2]
      exact .int _ _
  · rename_i n l c
    obtain ⟨hc, e⟩ := bt_some e
    cases e
    obtain ⟨sv, cv, rfl, rs, rc⟩ := hA.two
    cases rc
    cases rs with
    | svec z h1 h2 =>
      refine .inr ⟨_, w, main z c (blt_lt hc), G, Gh.Le.refl G, lanesI_ok ?_, k⟩
      rw [List.getElem?_map, h2, h1]
      rfl
  · cases e
end
end Go.Run
/- A meaning by run: primitives that make texts: decimal numerals, joined texts, a byte put for a byte. -/
namespace Go.Run
open Go Go.RowKit
section
variable {P : Program} {ln : Nat} {w0 : World} {U : Nat → Prop} {G : Gh} {h : Hp} {w w' : World}
/-- What a call leaves that writes into blocks of its own alone. -/
theorem HR.frame (k : HR ln w0 U G h w) (b : Below w.heap.size w w') : HR ln w0 U G h w' := by
  refine ⟨fun c z hz hne => ?_, k.own, fun c y hy => ⟨(k.gl c y hy).1, Nat.lt_of_lt_of_le (k.gl c y hy).2 b.size⟩, k.sep, k.lim, Nat.le_trans k.size b.size, k.below.trans (b.mono k.size), k.hid⟩
  obtain ⟨y, cur, fr, p1, p2, p3, p4, p5, p6, p7, p8⟩ := k.blk c z hz hne
  exact ⟨y, cur, fr, p1, p2, (b.block y.p (k.gl c y p1).2).trans p3, p4, p5, p6, p7, p8⟩
/-- A primitive whose call hands back a value and writes into blocks of its own alone. -/
theorem Does.of_frame {f : FuncId} {vs : Array Value} {v : V} (hc : Callable P f) (k : HR ln w0 U G h w) {vr : Value} (r : RepV ln G v vr) (c : Calls P f vs w fun e w' => e = .returned vr ∧ Below w.heap.size w w') :
    Does P f vs w fun vr w' => ∃ H, G.Le H ∧ RepV ln H v vr ∧ HR ln w0 U H h w' :=
  .inl ⟨hc, c.mono fun e w' ⟨he, hb⟩ => ⟨vr, he, G, Gh.Le.refl G, r, k.frame hb⟩⟩
end
noncomputable section
def digs (f : Nat) : Nat → Nat → Nat → V := Nat.rec (motive := fun _ => Nat → Nat → Nat → V) (fun _ _ _ => .junk) (fun _ ih n l s => Bool.rec (ih (Nat.div n 10) (Nat.add l 1) (Nat.add (Nat.add 48 (Nat.mod n 10)) (Nat.mul 256 s))) (.str (Nat.add l 1) (Nat.add (Nat.add 48 n) (Nat.mul 256 s))) (Nat.blt n 10)) f
/-- Texts of one length, lane by lane. -/
def mergeS (l : List V) : Option (Nat × List Nat) := List.rec none (fun v r ih => match v with
  | .str n x => Bool.rec (ob ih fun p => bt (Nat.beq p.1 n) (some (n, x :: p.2))) (some (n, [x])) (List.isEmpty r)
  | _ => none) l
def digI (x : Int) : V := match x with | .ofNat n => digs 25 n 0 0 | _ => .junk
def itoaP : Prim := fun vs h => match vs with
  | [.int .i64 (.ofNat n)] => bt (Nat.blt n 9223372036854775808) (some (digs 25 n 0 0, h))
  | [.ivec .i64 l] => bt (allB (fun x => match x with | .ofNat n => Nat.blt n 9223372036854775808 | _ => false) l) (ob (mergeS (l.map digI)) fun p => some (lanesS p.1 p.2, h))
  | _ => none
end
section
variable {P : Program} {ln : Nat} {w0 : World} {U : Nat → Prop} {G : Gh} {h : Hp} {w : World}
theorem dig_byte {d : Nat} (h : d < 10) : (UInt8.ofNat (48 + d)).toNat = 48 + d := by
  simp
  omega
theorem digs_ok : ∀ (f n : Nat) (suf : List UInt8), RepV ln G (digs f n suf.length (encL suf)) (.string ⟨(Lib.decDigits n ++ suf).toArray⟩)
  | 0, n, suf => .junk _
  | f + 1, n, suf => by
    show RepV ln G (Bool.rec (digs f (n / 10) (suf.length + 1) (48 + n % 10 + 256 * encL suf)) (.str (suf.length + 1) (48 + n + 256 * encL suf)) (Nat.blt n 10)) _
    rw [blt_eq]
    by_cases hn : n < 10
    · rw [decide_eq_true hn, Lib.decDigits_one hn]
      refine .str _ (by simp) ?_
      show encL (UInt8.ofNat (48 + n) :: suf) = _
      rw [encL_cons, dig_byte hn]
    · rw [decide_eq_false hn]
      have := digs_ok f (n / 10) (UInt8.ofNat (48 + n % 10) :: suf)
      rw [encL_cons, dig_byte (Nat.mod_lt _ (by omega))] at this
      rw [Lib.decDigits, dif_neg hn]
      simpa using this
theorem mergeS_ok : ∀ {l : List V} {p : Nat × List Nat}, mergeS l = some p → ∀ (i : Nat) v, l[i]? = some v → ∃ x, v = .str p.1 x ∧ p.2[i]? = some x
  | [], p, h => by cases h
  | v :: r, p, h => by
    cases v with
    | str n x =>
      have h : (Bool.rec (ob (mergeS r) fun p => bt (Nat.beq p.1 n) (some (n, x :: p.2))) (some (n, [x])) (List.isEmpty r) : Option (Nat × List Nat)) = some p := h
      cases r with
      | nil =>
        cases h
        intro i v hv
        cases i with
        | zero => cases hv; exact ⟨x, rfl, rfl⟩
        | succ i => simp at hv
      | cons y r =>
        obtain ⟨q, hq, h⟩ := ob_some (show ob (mergeS (y :: r)) (fun p => bt (Nat.beq p.1 n) (some (n, x :: p.2))) = some p from h)
        obtain ⟨he, h⟩ := bt_some h
        cases h
        intro i v hv
        cases i with
        | zero => cases hv; exact ⟨x, rfl, rfl⟩
        | succ i =>
          obtain ⟨z, h1, h2⟩ := mergeS_ok hq i v (by simpa using hv)
          exact ⟨z, by rw [h1, beqN he], by simpa using h2⟩
    | _ => cases h
theorem itoaP_ok {f : FuncId} (hc : Callable P f) (hf : ∀ (n : Int) (w : World), Below w0.heap.size w0 w → -9223372036854775808 ≤ n → n ≤ 9223372036854775807 → Calls P f #[.int .i64 n] w fun e w' => e = .returned (.string ⟨(Lib.itoa n).toArray⟩) ∧ Below w.heap.size w w') : PrimOk P ln w0 f itoaP := by
  intro U G h w args vs v h' k hA e
  have hit : ∀ n : Nat, Lib.itoa (n : Int) = Lib.decDigits n := fun n => by unfold Lib.itoa; rw [if_neg (by omega)]; rfl
  have hdig : ∀ n : Nat, RepV ln G (digs 25 n 0 0) (.string ⟨(Lib.decDigits n).toArray⟩) := fun n => by simpa [encL_nil] using digs_ok (ln := ln) (G := G) 25 n []
  unfold itoaP at e
  split at e
  · rename_i n
    obtain ⟨hn, e⟩ := bt_some e
    have hn : n < 9223372036854775808 := blt_lt hn
    cases e
    obtain ⟨sv, rfl, rs⟩ := hA.one
    cases rs
    refine Does.of_frame hc k (vr := .string ⟨(Lib.itoa (n : Int)).toArray⟩) (by rw [hit]; exact hdig n) (hf n w k.below ?_ ?_)
    · omega
    · omega
  · rename_i l
    obtain ⟨hn, e⟩ := bt_some e
    obtain ⟨p, hp, e⟩ := ob_some e
    cases e
    obtain ⟨sv, rfl, rs⟩ := hA.one
    cases rs with
    | @ivec _ _ x hx =>
      have hb := allB_all l hn x (List.mem_of_getElem? hx)
      cases x with
      | negSucc m => cases hb
      | ofNat m =>
        have hm : m < 9223372036854775808 := blt_lt hb
        obtain ⟨y, h1, h2⟩ := mergeS_ok hp ln (digI (.ofNat m)) (by rw [List.getElem?_map, hx]; rfl)
        have hd := hdig m
        have h1 : digs 25 m 0 0 = .str p.1 y := h1
        rw [h1] at hd
        refine Does.of_frame hc k (vr := .string ⟨(Lib.itoa ((m : Nat) : Int)).toArray⟩) ?_ (hf (m : Int) w k.below ?_ ?_)
        · rw [hit]
          generalize hz : (⟨(Lib.decDigits m).toArray⟩ : ByteArray) = z at hd
          cases hd with
          | str _ q1 q2 => exact lanesS_ok q1 (by rw [q2]; exact h2)
        · omega
        · omega
  · cases e
end
end Go.Run
/- A meaning by run: primitives: joined texts. -/
namespace Go.Run
open Go Go.RowKit
noncomputable section
/-- Two texts, one behind the other. -/
def catV : V → V → Option V
  | .str n x, .str m y => some (.str (Nat.add n m) (Nat.add x (Nat.mul (Nat.pow 256 n) y)))
  | .svec n x, .str m y => some (.svec (Nat.add n m) (x.map fun a => Nat.add a (Nat.mul (Nat.pow 256 n) y)))
  | .str n x, .svec m y => some (.svec (Nat.add n m) (y.map fun b => Nat.add x (Nat.mul (Nat.pow 256 n) b)))
  | .svec n x, .svec m y => ob (zipN (fun a b => Nat.add a (Nat.mul (Nat.pow 256 n) b)) x y) fun l => some (.svec (Nat.add n m) l)
  | _, _ => none
def joinV (sep : V) (l : List V) : Option V := List.rec (some (.str 0 0)) (fun x r ih => List.rec (some x) (fun _ _ _ => ob ih fun j => ob (catV sep j) fun j => catV x j) r) l
def isTxt : V → Bool | .str .. => true | .svec .. => true | _ => false
def joinP : Prim := fun vs h => match vs with
  | [x, sep] => ob (cellsOf h 1 x) fun q => bt (isTxt sep) (bt (allB isTxt q.2) (bt (Nat.ble q.1 1000000) (ob (joinV sep q.2) fun v => ob (lenV v) fun n => bt (Nat.ble n 1000000) (some (v, h)))))
  | _ => none
end
section
variable {P : Program} {ln : Nat} {w0 : World} {U : Nat → Prop} {G : Gh} {h : Hp} {w : World}
theorem zipNN_get {f : Nat → Nat → Nat} : ∀ {a b l : List Nat}, zipN f a b = some l → ∀ (i : Nat) x y, a[i]? = some x → b[i]? = some y → l[i]? = some (f x y)
  | [], [], l, h, i, x, y, hx, _ => by simp at hx
  | [], _ :: _, l, h, i, x, y, hx, _ => by simp at hx
  | _ :: _, [], l, h, i, x, y, _, hy => by simp at hy
  | a :: as, b :: bs, l, h, i, x, y, hx, hy => by
    obtain ⟨r, hr, h⟩ := ob_some (show ob (zipN f as bs) (fun r => some (f a b :: r)) = some l from h)
    cases h
    cases i with
    | zero => cases hx; cases hy; rfl
    | succ i => simpa using zipNN_get hr i x y (by simpa using hx) (by simpa using hy)
theorem cat_enc (s u : ByteArray) : (s ++ u).data.toList.length = s.data.toList.length + u.data.toList.length ∧ encL (s ++ u).data.toList = encL s.data.toList + 256 ^ s.data.toList.length * encL u.data.toList := by
  have : (s ++ u).data.toList = s.data.toList ++ u.data.toList := by rw [ByteArray.data_append, Array.toList_append]
  rw [this, encL_append, List.length_append]
  exact ⟨rfl, rfl⟩
theorem catV_ok {x y v : V} (e : catV x y = some v) {s u : ByteArray} (rx : RepV ln G x (.string s)) (ry : RepV ln G y (.string u)) : RepV ln G v (.string (s ++ u)) := by
  obtain ⟨c1, c2⟩ := cat_enc s u
  unfold catV at e
  split at e
  · cases e
    cases rx with
    | str _ h1 h2 => cases ry with
      | str _ g1 g2 => exact .str _ (by rw [c1, h1, g1]; rfl) (by rw [c2, h1, h2, g2]; rfl)
  · cases e
    cases rx with
    | svec _ h1 h2 => cases ry with
      | str _ g1 g2 => exact .svec _ (by rw [c1, h1, g1]; rfl) (by rw [List.getElem?_map, h2, c2, h1, g2]; rfl)
  · cases e
    cases rx with
    | str _ h1 h2 => cases ry with
      | svec _ g1 g2 => exact .svec _ (by rw [c1, h1, g1]; rfl) (by rw [List.getElem?_map, g2, c2, h1, h2]; rfl)
  · obtain ⟨l, hl, e⟩ := ob_some e
    cases e
    cases rx with
    | svec _ h1 h2 => cases ry with
      | svec _ g1 g2 => exact .svec _ (by rw [c1, h1, g1]; rfl) (by rw [zipNN_get hl ln _ _ h2 g2, c2, h1]; rfl)
  · cases e
theorem txt_of {x : V} (hx : isTxt x = true) {v : Value} (r : RepV ln G x v) : ∃ s, v = .string s := by
  cases r <;> first | exact ⟨_, rfl⟩ | cases hx
theorem txts_of : ∀ (l : List V) (us : List Value), RepC ln G l us → allB isTxt l = true → ∃ xs : List ByteArray, us = xs.map Value.string
  | [], us, r, _ => by
    have : us = [] := List.eq_nil_of_length_eq_zero r.1.symm
    exact ⟨[], this⟩
  | x :: l, us, r, h => by
    obtain ⟨h1, h2⟩ := band_true (show band (isTxt x) (allB isTxt l) = true from h)
    cases us with
    | nil => have := r.1; simp at this
    | cons u us =>
      obtain ⟨s, rfl⟩ := txt_of h1 (r.2 0 x u rfl rfl).1
      obtain ⟨xs, rfl⟩ := txts_of l us (by simpa using r.drop 1) h2
      exact ⟨s :: xs, rfl⟩
theorem join_two (x y : List UInt8) (r : List (List UInt8)) (sep : List UInt8) : Lib.join (x :: y :: r) sep = x ++ (sep ++ Lib.join (y :: r) sep) := by
  rw [Lib.join_cons, Lib.join_cons]
  simp [Lib.joinTail]
theorem mk_data (s : ByteArray) : (⟨s.data.toList.toArray⟩ : ByteArray) = s := by
  cases s
  simp
theorem joinV_ok {sep : V} {z : ByteArray} (rz : RepV ln G sep (.string z)) : ∀ (l : List V) (xs : List ByteArray) (v : V), joinV sep l = some v → RepC ln G l (xs.map Value.string) → RepV ln G v (.string ⟨(Lib.join (xs.map (·.data.toList)) z.data.toList).toArray⟩)
  | [], xs, v, e, r => by
    cases e
    have : xs = [] := by have := r.1; exact List.eq_nil_of_length_eq_zero (by simpa using this.symm)
    subst this
    exact .str _ rfl rfl
  | [x], xs, v, e, r => by
    cases e
    match xs, r with
    | [], r => have := r.1; simp at this
    | [s], r =>
      rw [List.map_cons, List.map_nil, Lib.join_one, mk_data]
      exact (r.2 0 _ _ rfl rfl).1
    | _ :: _ :: _, r => have := r.1; simp at this
  | x :: y :: l, xs, v, e, r => by
    obtain ⟨j, hj, e⟩ := ob_some (show ob (joinV sep (y :: l)) (fun j => ob (catV sep j) fun j => catV x j) = some v from e)
    obtain ⟨j2, hj2, e⟩ := ob_some e
    match xs, r with
    | [], r => have := r.1; simp at this
    | [_], r => have := r.1; simp at this
    | s :: t :: xs, r =>
      have ih := joinV_ok rz (y :: l) (t :: xs) j hj (by simpa using r.drop 1)
      have h1 := catV_ok hj2 rz ih
      have h2 := catV_ok e (r.2 0 _ _ rfl rfl).1 h1
      have : (⟨(Lib.join ((s :: t :: xs).map (·.data.toList)) z.data.toList).toArray⟩ : ByteArray) = s ++ (z ++ ⟨(Lib.join ((t :: xs).map (·.data.toList)) z.data.toList).toArray⟩) := by
        apply ByteArray.ext
        rw [ByteArray.data_append, ByteArray.data_append, List.map_cons, List.map_cons, join_two]
        apply Array.ext'
        simp
      rw [this]
      exact h2
theorem joinP_ok {f : FuncId} (hc : Callable P f)
    (h0 : ∀ (a : Option Addr) (c : Nat) (sep : ByteArray) (w : World), Calls P f #[.slice a 0 c, .string sep] w fun e w' => e = .returned (.string ⟨#[]⟩) ∧ Below w.heap.size w w')
    (hj : ∀ (bk o c : Nat) (xs : List ByteArray) (sep : ByteArray) (w : World), (∀ (j : Nat) x, xs[j]? = some x → w.cell? ⟨bk, o + j, none⟩ = some (.string x)) → bk < w.heap.size → xs.length ≤ 140737488355328 → xs.length ≤ c → (Lib.join (xs.map (·.data.toList)) sep.data.toList).length ≤ 140737488355328 →
      Calls P f #[.slice (some ⟨bk, o, none⟩) xs.length c, .string sep] w fun e w' => e = .returned (.string ⟨(Lib.join (xs.map (·.data.toList)) sep.data.toList).toArray⟩) ∧ Below w.heap.size w w') : PrimOk P ln w0 f joinP := by
  intro U G h w args vs v h' k hA e
  unfold joinP at e
  split at e
  · rename_i x sep
    obtain ⟨⟨n, l⟩, hq, e⟩ := ob_some e
    obtain ⟨ht, e⟩ := bt_some e
    obtain ⟨hl, e⟩ := bt_some e
    obtain ⟨hn, e⟩ := bt_some e
    obtain ⟨r, hr, e⟩ := ob_some e
    obtain ⟨m, hm, e⟩ := ob_some e
    obtain ⟨hm2, e⟩ := bt_some e
    cases e
    have hn : n ≤ 1000000 := ble_le hn
    have hm2 : m ≤ 1000000 := ble_le hm2
    obtain ⟨xv, sv, rfl, rx, rs⟩ := hA.two
    obtain ⟨z, rfl⟩ := txt_of ht rs
    have none0 : l = [] → RepV ln G v (.string ⟨#[]⟩) := fun hl0 => by
      subst hl0
      have := joinV_ok rs [] [] v hr .nil
      simpa [Lib.join_nil] using this
    unfold cellsOf at hq
    split at hq
    · cases hq; cases rx; exact Does.of_frame hc k (none0 rfl) (h0 _ _ _ w)
    · cases hq; cases rx; exact Does.of_frame hc k (none0 rfl) (h0 _ _ _ w)
    · cases hq; cases rx; exact Does.of_frame hc k (none0 rfl) (h0 _ _ _ w)
    · rename_i b off len
      obtain ⟨l', hl', hq⟩ := ob_some hq
      cases hq
      obtain ⟨y, cap, hg, hcap, hle, rfl⟩ := rx.of_sl
      obtain ⟨y', us, q1, q2, q3, q4⟩ := k.loaded hg hl'
      rw [hg] at q1
      cases q1
      obtain ⟨xs, rfl⟩ := txts_of _ us q2 hl
      have hxs : xs.length = n := by rw [List.length_map] at q3; rw [q3]; show n * 1 = n; omega
      have hv := joinV_ok rs _ xs v hr q2
      have hlen : (Lib.join (xs.map (·.data.toList)) z.data.toList).length = m := by
        cases hv with
        | str _ g1 g2 => cases hm; simpa using g1
        | svec _ g1 g2 => cases hm; simpa using g1
        | undef => cases hm
        | junk => cases hm
      have := hj y.p (y.o + off) cap xs z w (fun j x hx => q4 j _ (by rw [List.getElem?_map, hx]; rfl)) (k.gl b y hg).2 (by omega) (by omega) (by omega)
      rw [hxs] at this
      exact Does.of_frame hc k hv this
    · cases hq
  · cases e
end
end Go.Run
/- A meaning by run: primitives: numbers read from texts. -/
namespace Go.Run
open Go Go.RowKit
noncomputable section
def digV (b : Nat) : Option Nat := bt (Nat.ble 48 b) (bt (Nat.ble b 57) (some (Nat.sub b 48)))
/-- What digits spell behind others: nothing is told of great numbers; 'some none': they are no digits. -/
def decN (n : Nat) : Nat → Nat → Option (Option Nat) := Nat.rec (motive := fun _ => Nat → Nat → Option (Option Nat)) (fun _ a => some (some a))
  (fun _ ih s a => Option.rec (some none) (fun d => bt (Nat.blt (Nat.add (Nat.mul a 10) d) 9223372036854775808) (fN (Nat.div s 256) fun s => fN (Nat.add (Nat.mul a 10) d) fun a => ih s a)) (digV (Nat.mod s 256))) n
/-- What a text without a sign spells, if anything. -/
def atoiN (n s : Nat) : Option (Option Nat) := Nat.rec (some none) (fun _ _ => bt (bnot (bor (Nat.beq (Nat.mod s 256) 45) (Nat.beq (Nat.mod s 256) 43))) (decN n s 0)) n
def atoiL (n : Nat) (l : List Nat) : Option (List Int) := List.rec (some []) (fun s _ ih => ob (atoiN n s) fun r => ob r fun k => ob ih fun t => some (.ofNat k :: t)) l
/-- None of them spells anything. -/
def atoiE (n : Nat) (l : List Nat) : Bool := allB (fun s => Option.rec false (fun r => Option.rec true (fun _ => false) r) (atoiN n s)) l
def atoiR (r : Option Nat) : V := Option.rec (.tup [.int .i64 (.ofNat 0), .erri]) (fun k => .tup [.int .i64 (.ofNat k), .nili]) r
def atoiP : Prim := fun vs h => match vs with
  | [.str n s] => bt (Nat.ble n 1000000) (ob (atoiN n s) fun r => some (atoiR r, h))
  | [.svec n l] => bt (Nat.ble n 1000000) (Bool.rec (ob (atoiL n l) fun t => some (.tup [lanesI .i64 t, .nili], h)) (some (atoiR none, h)) (atoiE n l))
  | _ => none
end
section
variable {P : Program} {ln : Nat} {w0 : World} {U : Nat → Prop} {G : Gh} {h : Hp} {w : World}
theorem digV_eq (b : Nat) : digV b = if 48 ≤ b ∧ b ≤ 57 then some (b - 48) else none := by
  show bt (Nat.ble 48 b) (bt (Nat.ble b 57) (some (b - 48))) = _
  by_cases h1 : 48 ≤ b
  · rw [show Nat.ble 48 b = true from Nat.ble_eq_true_of_le h1]
    by_cases h2 : b ≤ 57
    · rw [show Nat.ble b 57 = true from Nat.ble_eq_true_of_le h2, if_pos ⟨h1, h2⟩]; rfl
    · rw [show Nat.ble b 57 = false from by cases hq : Nat.ble b 57 with | false => rfl | true => exact absurd (Nat.le_of_ble_eq_true hq) h2, if_neg (by omega)]; rfl
  · rw [show Nat.ble 48 b = false from by cases hq : Nat.ble 48 b with | false => rfl | true => exact absurd (Nat.le_of_ble_eq_true hq) h1, if_neg (by omega)]; rfl
theorem decN_ok : ∀ (l : List UInt8) (a : Nat) (r : Option Nat), a < 9223372036854775808 → decN l.length (encL l) a = some r → Lib.parseUint10 a l = Option.rec (Lib.parseUint10 0 [0]) .ok r ∧ ∀ k, r = some k → k < 9223372036854775808
  | [], a, r, ha, e => by cases e; exact ⟨rfl, fun k hk => by cases hk; exact ha⟩
  | b :: l, a, r, ha, e => by
    have e : (Option.rec (some none) (fun d => bt (Nat.blt (Nat.add (Nat.mul a 10) d) 9223372036854775808) (fN (Nat.div (encL (b :: l)) 256) fun s => fN (Nat.add (Nat.mul a 10) d) fun a => decN l.length s a)) (digV (Nat.mod (encL (b :: l)) 256)) : Option (Option Nat)) = some r := e
    simp only [fN_eq] at e
    rw [enc_mod, enc_div, digV_eq] at e
    unfold Lib.parseUint10
    by_cases hd : 48 ≤ b.toNat ∧ b.toNat ≤ 57
    · rw [if_pos hd] at e ⊢
      obtain ⟨h1, e⟩ := bt_some e
      have h1 : a * 10 + (b.toNat - 48) < 9223372036854775808 := blt_lt h1
      rw [if_neg (by omega), if_neg (by omega)]
      exact decN_ok l _ r h1 e
    · rw [if_neg hd] at e ⊢
      cases e
      exact ⟨rfl, fun k hk => by cases hk⟩
theorem atoiN_ok (l : List UInt8) (r : Option Nat) (e : atoiN l.length (encL l) = some r) : Lib.atoiAll l = Option.rec (Lib.atoiAll []) (fun k => .ok (k : Int)) r := by
  cases l with
  | nil => cases e; rfl
  | cons b l =>
    obtain ⟨h1, e⟩ := bt_some (show bt (bnot (bor (Nat.beq (Nat.mod (encL (b :: l)) 256) 45) (Nat.beq (Nat.mod (encL (b :: l)) 256) 43))) (decN (b :: l).length (encL (b :: l)) 0) = some r from e)
    rw [enc_mod, bnot_eq, bor_eq] at h1
    have h45 : b.toNat ≠ 45 := fun hq => by rw [hq] at h1; exact absurd h1 (by decide)
    have h43 : b.toNat ≠ 43 := fun hq => by rw [hq] at h1; exact absurd h1 (by decide)
    obtain ⟨q1, q2⟩ := decN_ok (b :: l) 0 r (by omega) e
    unfold Lib.atoiAll
    simp only [h45, h43, false_or, if_false]
    unfold Lib.parseMag
    rw [if_neg (by simp), q1]
    cases r with
    | none => rfl
    | some k =>
      have := q2 k rfl
      show (if ¬ False ∧ 9223372036854775808 ≤ k then Lib.NumEnd.range else _) = _
      rw [if_neg (by omega), if_neg (by omega)]
theorem atoiL_get {n : Nat} : ∀ {l : List Nat} {t : List Int}, atoiL n l = some t → ∀ (i : Nat) s, l[i]? = some s → ∃ k : Nat, atoiN n s = some (some k) ∧ t[i]? = some (k : Int)
  | [], t, e, i, s, hs => by simp at hs
  | x :: l, t, e, i, s, hs => by
    obtain ⟨r, hr, e⟩ := ob_some (show ob (atoiN n x) (fun r => ob r fun k => ob (atoiL n l) fun t => some (Int.ofNat k :: t)) = some t from e)
    obtain ⟨k, hk, e⟩ := ob_some e
    obtain ⟨t', ht', e⟩ := ob_some e
    cases e
    subst hk
    cases i with
    | zero => cases hs; exact ⟨k, hr, rfl⟩
    | succ i =>
      obtain ⟨k', h1, h2⟩ := atoiL_get ht' i s (by simpa using hs)
      exact ⟨k', h1, by simpa using h2⟩
theorem pair_ok {x y : V} {u v : Value} (r1 : RepV ln G x u) (r2 : RepV ln G y v) : RepV ln G (.tup [x, y]) (.tuple #[u, v]) := by
  simpa using (RepA.cons r1 (RepA.cons r2 .nil)).tup
theorem atoiP_ok {f : FuncId} (hc : Callable P f)
    (h1 : ∀ (s : ByteArray) (n : Int) (w : World), Below w0.heap.size w0 w → s.size ≤ 1000000 → Lib.atoiAll s.data.toList = .ok n → Calls P f #[.string s] w fun e w' => e = .returned (.tuple #[.int .i64 n, .nilIface]) ∧ Below w.heap.size w w')
    (h2 : ∀ (s : ByteArray) (w : World), Below w0.heap.size w0 w → s.size ≤ 1000000 → Lib.atoiAll s.data.toList = Lib.atoiAll [] → Calls P f #[.string s] w fun e w' => ∃ te pe, e = .returned (.tuple #[.int .i64 0, .iface te pe]) ∧ Below w.heap.size w w') : PrimOk P ln w0 f atoiP := by
  intro U G h w args vs v h' k hA e
  have good : ∀ (z : ByteArray) (m : Nat), z.data.toList.length ≤ 1000000 → atoiN z.data.toList.length (encL z.data.toList) = some (some m) → Calls P f #[.string z] w fun e w' => e = .returned (.tuple #[.int .i64 (m : Int), .nilIface]) ∧ Below w.heap.size w w' := fun z m hl hz =>
    h1 z m w k.below (by rw [ba_size]; exact hl) (by rw [atoiN_ok _ _ hz])
  have bad : ∀ (z : ByteArray), z.data.toList.length ≤ 1000000 → atoiN z.data.toList.length (encL z.data.toList) = some none → Does P f #[.string z] w fun vr w' => ∃ H, G.Le H ∧ RepV ln H (atoiR none) vr ∧ HR ln w0 U H h w' := fun z hl hz => by
    refine .inl ⟨hc, (h2 z w k.below (by rw [ba_size]; exact hl) (by rw [atoiN_ok _ _ hz])).mono fun e w' => ?_⟩
    rintro ⟨te, pe, he, hb⟩
    exact ⟨_, he, G, Gh.Le.refl G, pair_ok (.int _ _) (.erri _ _), k.frame hb⟩
  unfold atoiP at e
  split at e
  · rename_i n s
    obtain ⟨hn, e⟩ := bt_some e
    obtain ⟨r, hr, e⟩ := ob_some e
    cases e
    obtain ⟨sv, rfl, rs⟩ := hA.one
    cases rs with
    | str z g1 g2 =>
      have hn : n ≤ 1000000 := ble_le hn
      rw [← g1, ← g2] at hr
      cases r with
      | some m => exact Does.of_frame hc k (pair_ok (.int _ _) .nili) (good z m (by rw [g1]; exact hn) hr)
      | none => exact bad z (by rw [g1]; exact hn) hr
  · rename_i n l
    obtain ⟨hn, e⟩ := bt_some e
    have hn : n ≤ 1000000 := ble_le hn
    obtain ⟨sv, rfl, rs⟩ := hA.one
    cases rs with
    | svec z g1 g2 =>
      cases hq : atoiE n l with
      | true =>
        rw [hq] at e
        cases e
        have := allB_all _ hq _ (List.mem_of_getElem? g2)
        rw [← g1] at this
        cases hz : atoiN z.data.toList.length (encL z.data.toList) with
        | none => rw [hz] at this; cases this
        | some r =>
          cases r with
          | some m => rw [hz] at this; cases this
          | none => exact bad z (by rw [g1]; exact hn) hz
      | false =>
        rw [hq] at e
        obtain ⟨t, ht, e⟩ := ob_some e
        cases e
        obtain ⟨m, q1, q2⟩ := atoiL_get ht ln _ g2
        rw [← g1] at q1
        exact Does.of_frame hc k (pair_ok (lanesI_ok q2) .nili) (good z m (by rw [g1]; exact hn) q1)
  · cases e
end
end Go.Run
/- A meaning by run: primitives: one byte put for another. -/
namespace Go.Run
open Go Go.RowKit
noncomputable section
def replN (a c n : Nat) : Nat → Nat := Nat.rec (motive := fun _ => Nat → Nat) (fun _ => 0) (fun _ ih s => fN (Nat.div s 256) fun s' => Nat.add (Bool.rec (Nat.mod s 256) c (Nat.beq (Nat.mod s 256) a)) (Nat.mul 256 (ih s'))) n
def replP : Prim := fun vs h => match vs with
  | [.str n s, .str 1 a, .str 1 c] => bt (Nat.ble n 1000000) (some (.str n (replN a c n s), h))
  | [.svec n l, .str 1 a, .str 1 c] => bt (Nat.ble n 1000000) (some (.svec n (l.map (replN a c n)), h))
  | _ => none
end
section
variable {P : Program} {ln : Nat} {w0 : World} {U : Nat → Prop} {G : Gh} {h : Hp} {w : World}
theorem index_one_cons (x a : UInt8) (l : List UInt8) : Lib.index (x :: l) [a] = if a == x then 0 else if Lib.index l [a] == -1 then -1 else Lib.index l [a] + 1 := by
  show (if [a].isPrefixOf (x :: l) then (0 : Int) else if Lib.index l [a] == -1 then -1 else Lib.index l [a] + 1) = _
  have : [a].isPrefixOf (x :: l) = (a == x) := by simp [List.isPrefixOf]
  rw [this]
theorem replaceK_one (a c : UInt8) : ∀ (s : List UInt8) (k : Nat), s.count a ≤ k → Lib.replaceK [a] [c] k s = s.map fun x => if x == a then c else x
  | [], k, _ => by
    cases k with
    | zero => rfl
    | succ k =>
      show (if Lib.index [] [a] == -1 then ([] : List UInt8) else _) = _
      have : (Lib.index [] [a] == -1) = true := by simp [Lib.index]
      rw [this]
      rfl
  | x :: l, k, hk => by
    rw [List.map_cons]
    by_cases hx : x = a
    · subst hx
      rw [List.count_cons_self] at hk
      obtain ⟨k, rfl⟩ : ∃ j, k = j + 1 := ⟨k - 1, by omega⟩
      show (if Lib.index (x :: l) [x] == -1 then x :: l else (x :: l).take (Lib.index (x :: l) [x]).toNat ++ [c] ++ Lib.replaceK [x] [c] k ((x :: l).drop ((Lib.index (x :: l) [x]).toNat + 1))) = _
      have h0 : Lib.index (x :: l) [x] = 0 := by rw [index_one_cons]; simp
      rw [h0]
      have := replaceK_one x c l k (by omega)
      simp [this]
    · have hxa : (x == a) = false := by simpa using hx
      have hax : (a == x) = false := by simpa using Ne.symm hx
      rw [List.count_cons_of_ne hx] at hk
      have ih := replaceK_one a c l k hk
      rw [← ih]
      simp only [hxa]
      cases k with
      | zero => rfl
      | succ k =>
        show (if Lib.index (x :: l) [a] == -1 then x :: l else (x :: l).take (Lib.index (x :: l) [a]).toNat ++ [c] ++ Lib.replaceK [a] [c] k ((x :: l).drop ((Lib.index (x :: l) [a]).toNat + 1))) = _ :: (if Lib.index l [a] == -1 then l else l.take (Lib.index l [a]).toNat ++ [c] ++ Lib.replaceK [a] [c] k (l.drop ((Lib.index l [a]).toNat + 1)))
        rw [index_one_cons, hax]
        have hge := Lib.index_ge l [a]
        cases h1 : Lib.index l [a] == -1 with
        | true => simp [h1]
        | false =>
          have hne : Lib.index l [a] ≠ -1 := by simpa using h1
          obtain ⟨i, hi⟩ : ∃ i : Nat, Lib.index l [a] = i := ⟨(Lib.index l [a]).toNat, by omega⟩
          rw [hi]
          have e1 : ((i : Int) + 1).toNat = i + 1 := by omega
          have e2 : ((i : Int) + 1 == -1) = false := by simp; omega
          have e3 : ((i : Int) == -1) = false := by simp
          simp [e1, e2, e3]
theorem replN_eq (a c : UInt8) : ∀ l : List UInt8, replN a.toNat c.toNat l.length (encL l) = encL (l.map fun x => if x == a then c else x)
  | [] => rfl
  | x :: l => by
    show fN (Nat.div (encL (x :: l)) 256) (fun s' => (Bool.rec (Nat.mod (encL (x :: l)) 256) c.toNat (Nat.beq (Nat.mod (encL (x :: l)) 256) a.toNat) : Nat) + 256 * replN a.toNat c.toNat l.length s') = _
    rw [fN_eq]
    rw [enc_mod, enc_div, replN_eq a c l, List.map_cons, encL_cons]
    congr 1
    by_cases e : x = a
    · subst e
      rw [show Nat.beq x.toNat x.toNat = true from Nat.beq_refl _]
      simp
    · have hne : x.toNat ≠ a.toNat := fun h => e (UInt8.toNat_inj.1 h)
      rw [show Nat.beq x.toNat a.toNat = false from by cases hq : Nat.beq x.toNat a.toNat with | false => rfl | true => exact absurd (beqN hq) hne]
      simp [e]
theorem one_byte {z : ByteArray} {a : Nat} (h1 : z.data.toList.length = 1) (h2 : encL z.data.toList = a) : ∃ b : UInt8, z.data.toList = [b] ∧ b.toNat = a := by
  match hq : z.data.toList, h1 with
  | [b], _ =>
    refine ⟨b, rfl, ?_⟩
    rw [hq] at h2
    simpa [encL_cons, encL_nil] using h2
theorem replP_ok {f : FuncId} (hc : Callable P f)
    (hr : ∀ (s old new : ByteArray) (w : World), Below w0.heap.size w0 w → s.size ≤ 1000000 → old.size = 1 → new.size = 1 → Calls P f #[.string s, .string old, .string new] w fun e w' => e = .returned (.string ⟨(Lib.replaceAll s.data.toList old.data.toList new.data.toList).toArray⟩) ∧ Below w.heap.size w w') : PrimOk P ln w0 f replP := by
  have hrep : ∀ (s : List UInt8) (a c : UInt8), Lib.replaceAll s [a] [c] = s.map fun x => if x == a then c else x := fun s a c => by
    show (if ([a] == [c]) = true then s else Lib.replaceK [a] [c] (Lib.replaceNum s [a] (-1)) s) = _
    by_cases e : a = c
    · subst e
      rw [if_pos (by simp)]
      have : (fun x => if x == a then a else x) = fun x : UInt8 => x := by
        funext x
        by_cases h : x = a
        · simp [h]
        · simp [h]
      rw [this, List.map_id']
    · rw [if_neg (by simp [e]), replaceK_one]
      have : Lib.replaceNum s [a] (-1) = Lib.count s [a] := by simp [Lib.replaceNum]
      rw [this, Lib.count_one]
      exact Nat.le_refl _
  intro U G h w args vs v h' k hA e
  unfold replP at e
  have three : ∀ {x y z : V} {us : List Value}, RepA ln G [x, y, z] us → ∃ a b c, us = [a, b, c] ∧ RepV ln G x a ∧ RepV ln G y b ∧ RepV ln G z c := fun {x y z us} r => by
    match us, r with
    | [a, b, c], r => exact ⟨a, b, c, rfl, r.2 0 x a rfl rfl, r.2 1 y b rfl rfl, r.2 2 z c rfl rfl⟩
    | [], r => cases r.1
    | [_], r => cases r.1
    | [_, _], r => cases r.1
    | _ :: _ :: _ :: _ :: _, r => cases r.1
  split at e
  · rename_i n s a c
    obtain ⟨hn, e⟩ := bt_some e
    cases e
    have hn : n ≤ 1000000 := ble_le hn
    obtain ⟨sv, av, cv, rfl, rs, ra, rc⟩ := three hA
    cases rs with
    | str z g1 g2 => cases ra with
      | str za a1 a2 => cases rc with
        | str zc c1 c2 =>
          obtain ⟨ba, ha, ha2⟩ := one_byte a1 a2
          obtain ⟨bc, hcc, hc2⟩ := one_byte c1 c2
          refine Does.of_frame hc k ?_ (hr z za zc w k.below (by rw [ba_size, g1]; exact hn) (by rw [ba_size, a1]) (by rw [ba_size, c1]))
          rw [ha, hcc, hrep]
          refine .str _ (by simpa using g1) ?_
          show encL (z.data.toList.map _) = _
          rw [← ha2, ← hc2, ← g1, ← g2, replN_eq]
  · rename_i n l a c
    obtain ⟨hn, e⟩ := bt_some e
    cases e
    have hn : n ≤ 1000000 := ble_le hn
    obtain ⟨sv, av, cv, rfl, rs, ra, rc⟩ := three hA
    cases rs with
    | svec z g1 g2 => cases ra with
      | str za a1 a2 => cases rc with
        | str zc c1 c2 =>
          obtain ⟨ba, ha, ha2⟩ := one_byte a1 a2
          obtain ⟨bc, hcc, hc2⟩ := one_byte c1 c2
          refine Does.of_frame hc k ?_ (hr z za zc w k.below (by rw [ba_size, g1]; exact hn) (by rw [ba_size, a1]) (by rw [ba_size, c1]))
          rw [ha, hcc, hrep]
          refine .svec _ (by simpa using g1) ?_
          show (l.map (replN a c n))[ln]? = some (encL (z.data.toList.map _))
          rw [List.getElem?_map, g2, ← ha2, ← hc2, ← g1, ← replN_eq]
          rfl
  · cases e
end
end Go.Run
/- A meaning by run: what a call is known to come to: told once, for a small state; taken in any state that holds it. -/
namespace Go.Run
open Go Go.RowKit
noncomputable section
def refs1 : V → List Nat
  | .sl b _ _ => [b]
  | .sle b _ => [b]
  | .ptr b _ => [b]
  | _ => []
def addN (l : List Nat) : List Nat → List Nat := List.rec (motive := fun _ => List Nat → List Nat) (fun s => s) (fun x _ ih s => ih (Bool.rec (s ++ [x]) s (memB x s))) l
def refsC (l : List V) : List Nat → List Nat := List.rec (motive := fun _ => List Nat → List Nat) (fun s => s) (fun x _ ih s => ih (addN (refs1 x) s)) l
def refsA (l : List V) : List Nat → List Nat := List.rec (motive := fun _ => List Nat → List Nat) (fun s => s) (fun x _ ih s => ih (match x with | .agg xs => refsC xs s | x => addN (refs1 x) s)) l
/-- The blocks that blocks lead to, in order. -/
def reach (h : Hp) (n : Nat) : Nat → List Nat → List Nat := Nat.rec (motive := fun _ => Nat → List Nat → List Nat) (fun _ s => s) (fun _ ih i s => Option.rec s (fun b => ih (Nat.add i 1) (Option.rec s (fun x => refsC x.cells s) (getB h b))) (nth s i)) n
def veqA (s : List Nat) : V → V → Bool
  | .agg xs, .agg ys => listEq (veqS s) xs ys
  | x, y => veqS s x y
/-- The first ones are alike. -/
def listPre (f : V → V → Bool) (a b : List V) : Bool := List.rec (motive := fun _ => List V → Bool) (fun _ => true) (fun y _ ih a => List.rec false (fun x r _ => Bool.rec false (ih r) (f x y)) a) b a
def blkC (s : List Nat) (x y : Blk) : Bool := band (Nat.beq x.ty y.ty) (band (Nat.beq x.sz y.sz) (band (listPre (veqS s) x.cells y.cells) (bnot y.opn)))
def blksC (h : Hp) (s : List Nat) (t : List Nat) : List Blk → Bool := List.rec (motive := fun _ => List Blk → Bool) (fun l => List.rec true (fun _ _ _ => false) l)
  (fun b _ ih l => List.rec false (fun y r _ => band (Option.rec false (fun x => blkC s x y) (getB h b)) (ih r)) l) t
/-- New blocks bear other numbers; what leads to others is not told. -/
def rn1 (k n : Nat) : V → V
  | .sl b o l => Bool.rec .junk (.sl (Nat.add n (Nat.sub b k)) o l) (Nat.ble k b)
  | .sle b o => Bool.rec .junk (.sle (Nat.add n (Nat.sub b k)) o) (Nat.ble k b)
  | .ptr b o => Bool.rec .junk (.ptr (Nat.add n (Nat.sub b k)) o) (Nat.ble k b)
  | .clo f [] [] => .clo f [] []
  | .clo _ _ _ => .junk
  | .agg _ => .junk
  | .tup _ => .junk
  | x => x
def mapV (f : V → V) (l : List V) : List V := List.rec [] (fun x _ ih => f x :: ih) l
def rn2 (k n : Nat) : V → V
  | .agg xs => .agg (mapV (rn1 k n) xs)
  | x => rn1 k n x
def rnV (k n : Nat) : V → V
  | .tup xs => .tup (mapV (rn2 k n) xs)
  | x => rn2 k n x
def rnB (k n : Nat) (x : Blk) : Blk := ⟨x.ty, x.sz, mapV (rn1 k n) x.cells, x.opn, []⟩
def rnBs (k n : Nat) (l : List Blk) : List Blk := List.rec [] (fun x _ ih => rnB k n x :: ih) l
/-- What is known of a call: arguments, their blocks; what it yields, its new blocks. -/
structure Sm where
  as : List V
  bs : List Blk
  v : V
  cs : List Blk
def sumP (z : Sm) : Prim := fun args h => (fun s : List Nat =>
  bt (band (listEq (veqA s) args z.as) (band (blksC h s s z.bs) (Nat.ble (Nat.add h.next z.cs.length) 1000000))) (some (rnV z.bs.length h.next z.v, ⟨Nat.add h.next z.cs.length, fillT (rnBs z.bs.length h.next z.cs) h.next h.t⟩)))
  (reach h 1000 0 (refsA args []))
/-- The first one that fits. -/
def sumsP (l : List Sm) : Prim := fun args h => List.rec none (fun z _ ih => Option.rec ih (fun p => some p) (sumP z args h)) l
/-- What is behind a call is as it was told. -/
def finB (s : List Nat) (z : Sm) (p : V × Hp) : Bool := band (nodupB s) (band (Nat.ble (z.bs ++ z.cs).length 1000000)
  (band (match p.1, z.v with | .tup xs, .tup ys => listEq (veqA s) xs ys | x, y => veqA s x y) (blksS p.2 s s (z.bs ++ z.cs))))
def sumB (cf : CallF) (f : FuncId) (t : List Nat) (z : Sm) : Bool := Option.rec false (fun p => finB (List.range z.bs.length ++ t) z p) (cf f z.as (mkHp z.bs))
def openB (l : List Blk) : Bool := allB (fun x => x.opn) l
end
/-- What is known of a call holds in each world of a kind. -/
def Summ (P : Program) (ln : Nat) (Ok : World → Prop) (f : FuncId) (z : Sm) : Prop := ∀ (G : Gh) (w : World) (vs : List Value), Ok w → HR ln w (fun _ => False) G (mkHp z.bs) w → RepA ln G z.as vs →
  Does P f vs.toArray w fun vr w' => ∃ H, RepV ln H z.v vr ∧ HR ln w (fun _ => False) H (mkHp (z.bs ++ z.cs)) w'
section
variable {P : Program} {ln : Nat} {w0 : World} {U : Nat → Prop} {G G' H : Gh} {h : Hp} {w w' : World} {cf : CallF} {Ok : World → Prop}
theorem mapV_eq (f : V → V) : ∀ l : List V, mapV f l = l.map f
  | [] => rfl
  | x :: l => by rw [List.map_cons, ← mapV_eq f l]; rfl
theorem rnBs_eq (k n : Nat) : ∀ l : List Blk, rnBs k n l = l.map (rnB k n)
  | [] => rfl
  | x :: l => by rw [List.map_cons, ← rnBs_eq k n l]; rfl
theorem veqA_ok {s : List Nat} {x y : V} (e : veqA s x y = true) {v : Value} (r : RepV ln G x v) : RepV ln (G.via s) y v := by
  unfold veqA at e
  split at e
  · rename_i xs ys
    obtain ⟨l1, l2⟩ := listEq_get _ _ e
    cases r with
    | agg f h1 h2 =>
      rw [l1]
      refine .agg f (fun i y hy => ?_) (fun i hi => h2 i (by omega))
      obtain ⟨x, hx, hq⟩ := l2 i y hy
      exact veqS_ok hq (h1 i x hx)
  · exact veqS_ok e r
theorem veqT_ok {s : List Nat} {x y : V} (e : (match x, y with | .tup xs, .tup ys => listEq (veqA s) xs ys | x, y => veqA s x y) = true) {v : Value} (r : RepV ln G x v) : RepV ln (G.via s) y v := by
  split at e
  · rename_i xs ys
    obtain ⟨l1, l2⟩ := listEq_get _ _ e
    cases r with
    | tup f h1 =>
      rw [l1]
      refine .tup f (fun i y hy => ?_)
      obtain ⟨x, hx, hq⟩ := l2 i y hy
      exact veqA_ok hq (h1 i x hx)
  · exact veqA_ok e r
theorem rn1_ok {k n : Nat} (hG : ∀ c y, k ≤ c → H c = some y → G' (n + (c - k)) = some y) {x : V} {v : Value} (r : RepV ln H x v) : RepV ln G' (rn1 k n x) v := by
  have hb : ∀ (b : Nat) (x : V), (k ≤ b → RepV ln G' x v) → RepV ln G' (Bool.rec .junk x (Nat.ble k b)) v := fun b x hx => by
    cases hq : Nat.ble k b with
    | false => exact .junk v
    | true => exact hx (ble_le hq)
  cases r with
  | int => exact .int _ _
  | bool => exact .bool _
  | str z g1 g2 => exact .str z g1 g2
  | ivec g => exact .ivec g
  | svec z g1 g2 => exact .svec z g1 g2
  | sl hg hc hl => exact hb _ _ fun hk => .sl (hG _ _ hk hg) hc hl
  | sl0 ad => exact .sl0 ad
  | sle hg hc => exact hb _ _ fun hk => .sle (hG _ _ hk hg) hc
  | nils => exact .nils
  | ptr hg => exact hb _ _ fun hk => .ptr (hG _ _ hk hg)
  | nilp => exact .nilp
  | clo f g k q1 q2 =>
    rename_i us vs
    cases us with
    | cons => exact .junk _
    | nil =>
      cases vs with
      | cons => exact .junk _
      | nil => exact .clo f g k (fun i x hx => by simp at hx) (fun i x hx => by simp at hx)
  | nilf => exact .nilf
  | nili => exact .nili
  | erri t v => exact .erri t v
  | undef v g => exact .undef v g
  | agg => exact .junk _
  | tup => exact .junk _
  | junk v => exact .junk v
theorem rn2_ok {k n : Nat} (hG : ∀ c y, k ≤ c → H c = some y → G' (n + (c - k)) = some y) {x : V} {v : Value} (r : RepV ln H x v) : RepV ln G' (rn2 k n x) v := by
  unfold rn2
  split
  · rename_i xs
    cases r with
    | agg f h1 h2 =>
      rw [mapV_eq, show xs.length = (xs.map (rn1 k n)).length by simp]
      refine .agg f (fun i y hy => ?_) (fun i hi => h2 i (by simpa using hi))
      rw [List.getElem?_map, Option.map_eq_some_iff] at hy
      obtain ⟨x, hx, rfl⟩ := hy
      exact rn1_ok hG (h1 i x hx)
  · exact rn1_ok hG r
theorem rnV_ok {k n : Nat} (hG : ∀ c y, k ≤ c → H c = some y → G' (n + (c - k)) = some y) {x : V} {v : Value} (r : RepV ln H x v) : RepV ln G' (rnV k n x) v := by
  unfold rnV
  split
  · rename_i xs
    cases r with
    | tup f h1 =>
      rw [mapV_eq, show xs.length = (xs.map (rn2 k n)).length by simp]
      refine .tup f (fun i y hy => ?_)
      rw [List.getElem?_map, Option.map_eq_some_iff] at hy
      obtain ⟨x, hx, rfl⟩ := hy
      exact rn2_ok hG (h1 i x hx)
  · exact rn2_ok hG r
theorem listPre_get {f : V → V → Bool} : ∀ (a b : List V), listPre f a b = true → b.length ≤ a.length ∧ ∀ (i : Nat) y, b[i]? = some y → ∃ x, a[i]? = some x ∧ f x y = true
  | a, [], _ => ⟨Nat.zero_le _, fun i y hy => by simp at hy⟩
  | [], _ :: _, h => by cases h
  | x :: a, y :: b, h => by
    have h : (Bool.rec false (listPre f a b) (f x y) : Bool) = true := h
    cases hx : f x y with
    | false => rw [hx] at h; cases h
    | true =>
      rw [hx] at h
      obtain ⟨q1, q2⟩ := listPre_get a b h
      refine ⟨by simpa using q1, fun i z hz => ?_⟩
      cases i with
      | zero => cases hz; exact ⟨x, rfl, hx⟩
      | succ i => exact q2 i z (by simpa using hz)
theorem blksC_get {s : List Nat} : ∀ (t : List Nat) (l : List Blk), blksC h s t l = true → t.length = l.length ∧ ∀ (c : Nat) y, l[c]? = some y → ∃ b x, t[c]? = some b ∧ getB h b = some x ∧ blkC s x y = true
  | [], [], _ => ⟨rfl, fun c y hc => by simp at hc⟩
  | [], _ :: _, e => by cases e
  | _ :: _, [], e => by cases e
  | b :: t, y :: l, e => by
    obtain ⟨h1, h2⟩ := band_true (show band (Option.rec false (fun x => blkC s x y) (getB h b)) (blksC h s t l) = true from e)
    obtain ⟨q1, q2⟩ := blksC_get t l h2
    refine ⟨by simp [q1], fun c z hc => ?_⟩
    cases c with
    | zero =>
      cases hc
      cases hg : getB h b with
      | none => rw [hg] at h1; cases h1
      | some x => rw [hg] at h1; exact ⟨b, x, rfl, hg, h1⟩
    | succ c => exact q2 c z (by simpa using hc)
/-- A part of a state that is only read, as a state of its own. -/
theorem HR.part (k : HR ln w0 U G h w) {s : List Nat} {blks : List Blk} (hn : blks.length ≤ 1000000) (hb : blksC h s s blks = true) : HR ln w (fun _ => False) (G.via s) (mkHp blks) w := by
  obtain ⟨hl, hg⟩ := blksC_get s blks hb
  have key : ∀ (c : Nat) z, getB (mkHp blks) c = some z → z.opn = false := fun c z hz => by
    rw [getB_mk hn] at hz
    obtain ⟨b, x, hsb, hx, e⟩ := hg c z hz
    obtain ⟨_, e⟩ := band_true e
    obtain ⟨_, e⟩ := band_true e
    obtain ⟨_, e⟩ := band_true e
    rw [bnot_eq] at e
    simpa using e
  refine ⟨fun c z hz hne => ?_, fun c z hz => ?_, fun c y hy => ?_, fun b c x z y q hx hz ho hne hy hq hp => ?_, hn, Nat.le_refl _, Below.refl _ _, fun b hb => hb.elim⟩
  · have hzo := key c z hz
    rw [getB_mk hn] at hz
    obtain ⟨b, x, hsb, hx, e⟩ := hg c z hz
    obtain ⟨e1, e⟩ := band_true e
    obtain ⟨e2, e⟩ := band_true e
    obtain ⟨e3, e4⟩ := band_true e
    have hGb : G b ≠ none := fun h0 => hne (by unfold Gh.via; rw [hsb]; exact h0)
    obtain ⟨y, cur, fr, p1, p2, p3, p4, p5, p6, p7, p8⟩ := k.blk b x hx hGb
    obtain ⟨l1, l2⟩ := listPre_get _ _ e3
    refine ⟨y, cur, fr, via_some.2 ⟨b, hsb, p1⟩, p2.trans (beqN e2), by rw [← beqN e1]; exact p3, p4, by omega, by rw [← beqN e1]; exact p6, fun i v hv => ?_, fun ho => by rw [hzo] at ho; cases ho⟩
    obtain ⟨u, hu, hq⟩ := l2 i v hv
    obtain ⟨vr, r1, r2, r3⟩ := p7 i u hu
    exact ⟨vr, r1, veqS_ok hq r2, r3⟩
  · rw [getB_mk hn] at hz
    exact (List.getElem?_eq_some_iff.1 hz).1
  · obtain ⟨b, hsb, hy⟩ := via_some.1 hy
    refine ⟨?_, (k.gl b y hy).2⟩
    show c < blks.length
    rw [← hl]
    exact (List.getElem?_eq_some_iff.1 hsb).1
  · rw [key b x hx] at ho
    cases ho
/-- The ghost for a state with new blocks behind it. -/
def Gh.join (G H : Gh) (k n : Nat) : Gh := fun b => if b < n then G b else H (k + (b - n))
theorem HR.join (k : HR ln w0 U G h w) {bs cs : List Blk} (hl : (bs ++ cs).length ≤ 1000000) (ho : openB cs = true) (hn : h.next + cs.length ≤ 1000000) (k' : HR ln w (fun _ => False) H (mkHp (bs ++ cs)) w') :
    G.Le (G.join H bs.length h.next) ∧ (∀ c y, bs.length ≤ c → H c = some y → G.join H bs.length h.next (h.next + (c - bs.length)) = some y) ∧
    HR ln w0 U (G.join H bs.length h.next) ⟨h.next + cs.length, fillT (rnBs bs.length h.next cs) h.next h.t⟩ w' := by
  have hle : G.Le (G.join H bs.length h.next) := fun b y e => by
    unfold Gh.join
    rw [if_pos (k.gl b y e).1]
    exact e
  have hnew : ∀ c y, bs.length ≤ c → H c = some y → G.join H bs.length h.next (h.next + (c - bs.length)) = some y := fun c y hc e => by
    unfold Gh.join
    rw [if_neg (by omega), show bs.length + (h.next + (c - bs.length) - h.next) = c by omega]
    exact e
  have hold : ∀ b, b < h.next → G.join H bs.length h.next b = G b := fun b hb => if_pos hb
  have hnw : ∀ b, ¬ b < h.next → G.join H bs.length h.next b = H (bs.length + (b - h.next)) := fun b hb => if_neg hb
  have hget : ∀ b, getB ⟨h.next + cs.length, fillT (rnBs bs.length h.next cs) h.next h.t⟩ b = if h.next ≤ b ∧ b < h.next + cs.length then (cs[b - h.next]?).map (rnB bs.length h.next) else getB h b := fun b => by
    show (fillT (rnBs bs.length h.next cs) h.next h.t).get b = _
    rw [rnBs_eq, fillT_get _ _ _ _ (by simpa using hn), List.length_map, List.getElem?_map]
    rfl
  have hcs : ∀ b z, ¬ b < h.next → getB ⟨h.next + cs.length, fillT (rnBs bs.length h.next cs) h.next h.t⟩ b = some z → ∃ x, cs[b - h.next]? = some x ∧ z = rnB bs.length h.next x ∧ x.opn = true ∧ getB (mkHp (bs ++ cs)) (bs.length + (b - h.next)) = some x := fun b z hb hz => by
    rw [hget] at hz
    split at hz
    · rw [Option.map_eq_some_iff] at hz
      obtain ⟨x, hx, rfl⟩ := hz
      refine ⟨x, hx, rfl, allB_all _ ho x (List.mem_of_getElem? hx), ?_⟩
      rw [getB_mk hl, List.getElem?_append_right (by omega), show bs.length + (b - h.next) - bs.length = b - h.next by omega]
      exact hx
    · exact absurd (k.own b z hz) hb
  have hgo : ∀ b z, b < h.next → getB ⟨h.next + cs.length, fillT (rnBs bs.length h.next cs) h.next h.t⟩ b = some z → getB h b = some z := fun b z hb hz => by
    rw [hget, if_neg (by omega)] at hz
    exact hz
  refine ⟨hle, hnew, ⟨fun b z hz hg => ?_, fun b z hz => ?_, fun b y hy => ?_, fun b c x z y q hx hz hop hne hy hq hp => ?_, hn, Nat.le_trans k.size k'.size, k.below.trans (k'.below.mono k.size), fun b hb => ?_⟩⟩
  · by_cases hb : b < h.next
    · rw [hold b hb] at hg
      obtain ⟨y, cur, fr, p1, p2, p3, p4, p5, p6, p7, p8⟩ := k.blk b z (hgo b z hb hz) hg
      exact ⟨y, cur, fr, hle b y p1, p2, (k'.below.block y.p (k.gl b y p1).2).trans p3, p4, p5, p6, fun i c hi => by
        obtain ⟨v, g1, g2, g3⟩ := p7 i c hi
        exact ⟨v, g1, g2.mono hle, g3⟩, p8⟩
    · obtain ⟨x, hx, rfl, hxo, hxg⟩ := hcs b z hb hz
      rw [hnw b hb] at hg
      obtain ⟨y, cur, fr, p1, p2, p3, p4, p5, p6, p7, p8⟩ := k'.blk _ x hxg hg
      refine ⟨y, cur, fr, by rw [hnw b hb]; exact p1, p2, p3, p4, by unfold rnB; rw [mapV_eq]; simpa using p5, p6, fun i c hi => ?_, fun _ => Nat.le_trans k.size (p8 hxo)⟩
      unfold rnB at hi
      rw [mapV_eq, List.getElem?_map, Option.map_eq_some_iff] at hi
      obtain ⟨c0, hc0, rfl⟩ := hi
      obtain ⟨v, g1, g2, g3⟩ := p7 i c0 hc0
      exact ⟨v, g1, rn1_ok hnew g2, g3⟩
  · show b < h.next + cs.length
    by_cases hb : b < h.next
    · omega
    · obtain ⟨x, hx, _⟩ := hcs b z hb hz
      have := (List.getElem?_eq_some_iff.1 hx).1
      omega
  · show b < h.next + cs.length ∧ _
    by_cases hb : b < h.next
    · rw [hold b hb] at hy
      have := k.gl b y hy
      exact ⟨by omega, Nat.lt_of_lt_of_le this.2 k'.size⟩
    · rw [hnw b hb] at hy
      have h1 := (k'.gl _ y hy).1
      have h1 : bs.length + (b - h.next) < (bs ++ cs).length := h1
      rw [List.length_append] at h1
      exact ⟨by omega, (k'.gl _ y hy).2⟩
  · have new : ∀ b z y, ¬ b < h.next → getB ⟨h.next + cs.length, fillT (rnBs bs.length h.next cs) h.next h.t⟩ b = some z → G.join H bs.length h.next b = some y → w.heap.size ≤ y.p := fun b z y hb hz hy => by
      obtain ⟨x, hx, rfl, hxo, hxg⟩ := hcs b z hb hz
      rw [hnw b hb] at hy
      obtain ⟨y', cur, fr, p1, p2, p3, p4, p5, p6, p7, p8⟩ := k'.blk _ x hxg (Gh.ne hy)
      rw [p1] at hy
      cases hy
      exact p8 hxo
    by_cases hb : b < h.next
    · by_cases hc : c < h.next
      · rw [hold b hb] at hy
        rw [hold c hc] at hq
        exact k.sep b c x z y q (hgo b x hb hx) (hgo c z hc hz) hop hne hy hq hp
      · have := new c z q hc hz hq
        rw [hold b hb] at hy
        have := (k.gl b y hy).2
        omega
    · by_cases hc : c < h.next
      · have := new b x y hb hx hy
        rw [hold c hc] at hq
        have := (k.gl c q hq).2
        omega
      · obtain ⟨x0, hx0, rfl, hxo, hxg⟩ := hcs b x hb hx
        obtain ⟨z0, hz0, rfl, hzo, hzg⟩ := hcs c z hc hz
        rw [hnw b hb] at hy
        rw [hnw c hc] at hq
        obtain ⟨s1, s2, s3⟩ := k'.sep _ _ x0 z0 y q hxg hzg hxo (by omega) hy hq hp
        rw [hzo] at s2
        cases s2
  · have := k.hid b hb
    exact ⟨by show b < h.next + cs.length; omega, by rw [hold b this.1]; exact this.2⟩
theorem range_app {n : Nat} {t : List Nat} (c : Nat) (hc : c < n) : (List.range n ++ t)[c]? = some c := by
  rw [List.getElem?_append_left (by simpa using hc), List.getElem?_range hc]
/-- A call's summary, out of its run. -/
theorem Summ.of_run {f : FuncId} {t : List Nat} {z : Sm} (hcf : ∀ w, Ok w → CfOk P ln w cf) (e : sumB cf f t z = true) : Summ P ln Ok f z := by
  intro G w vs hw k hA
  unfold sumB at e
  cases hr : cf f z.as (mkHp z.bs) with
  | none => rw [hr] at e; cases e
  | some p =>
    rw [hr] at e
    obtain ⟨e3, e⟩ := band_true (show finB (List.range z.bs.length ++ t) z p = true from e)
    obtain ⟨e4, e⟩ := band_true e
    obtain ⟨e5, e6⟩ := band_true e
    obtain ⟨v, h'⟩ := p
    have fin : ∀ vr w', (∃ H, G.Le H ∧ RepV ln H v vr ∧ HR ln w (fun _ => False) H h' w') → ∃ H, RepV ln H z.v vr ∧ HR ln w (fun _ => False) H (mkHp (z.bs ++ z.cs)) w' := by
      rintro vr w' ⟨H, g1, g2, g3⟩
      exact ⟨H.via _, veqT_ok e5 g2, g3.sim e3 (ble_le e4) e6⟩
    rcases hcf w hw (fun _ => False) G (mkHp z.bs) w f z.as vs v h' k hA hr with ⟨hc, hcalls⟩ | ⟨vr, w', hrun, hR⟩
    · refine .inl ⟨hc, hcalls.mono ?_⟩
      rintro e w' ⟨vr, rfl, hR⟩
      exact ⟨vr, rfl, fin vr w' hR⟩
    · exact .inr ⟨vr, w', hrun, fin vr w' hR⟩
theorem sumP_ok {f : FuncId} {z : Sm} (hOk : ∀ w, Below w0.heap.size w0 w → Ok w) (hz : Summ P ln Ok f z) (hl : Nat.ble (z.bs ++ z.cs).length 1000000 = true) (ho : openB z.cs = true) : PrimOk P ln w0 f (sumP z) := by
  intro U G h w args vs v h' k hA e
  have hl : (z.bs ++ z.cs).length ≤ 1000000 := ble_le hl
  unfold sumP at e
  generalize reach h 1000 0 (refsA args []) = s at e
  obtain ⟨e1, e⟩ := bt_some e
  cases e
  obtain ⟨e1, e2⟩ := band_true e1
  obtain ⟨e2, e3⟩ := band_true e2
  obtain ⟨l1, l2⟩ := listEq_get _ _ e1
  have kp := k.part (by rw [List.length_append] at hl; omega) e2
  have hA' : RepA ln (G.via s) z.as vs := by
    refine ⟨by rw [← l1]; exact hA.1, fun i y v hy hv => ?_⟩
    obtain ⟨x, hx, hq⟩ := l2 i y hy
    exact veqA_ok hq (hA.2 i x v hx hv)
  have fin : ∀ vr w', (∃ H, RepV ln H z.v vr ∧ HR ln w (fun _ => False) H (mkHp (z.bs ++ z.cs)) w') → ∃ H, G.Le H ∧ RepV ln H (rnV z.bs.length h.next z.v) vr ∧ HR ln w0 U H ⟨h.next + z.cs.length, fillT (rnBs z.bs.length h.next z.cs) h.next h.t⟩ w' := by
    rintro vr w' ⟨H, g1, g2⟩
    obtain ⟨q1, q2, q3⟩ := k.join hl ho (ble_le e3) g2
    exact ⟨_, q1, rnV_ok q2 g1, q3⟩
  rcases hz (G.via s) w vs (hOk w k.below) kp hA' with ⟨hc, hcalls⟩ | ⟨vr, w', hrun, hR⟩
  · refine .inl ⟨hc, hcalls.mono ?_⟩
    rintro e w' ⟨vr, rfl, hR⟩
    exact ⟨vr, rfl, fin vr w' hR⟩
  · exact .inr ⟨vr, w', hrun, fin vr w' hR⟩
theorem sumsP_ok {f : FuncId} (hOk : ∀ w, Below w0.heap.size w0 w → Ok w) : ∀ (l : List Sm), (∀ z ∈ l, Summ P ln Ok f z ∧ Nat.ble (z.bs ++ z.cs).length 1000000 = true ∧ openB z.cs = true) → PrimOk P ln w0 f (sumsP l)
  | [], _ => fun U G h w args vs v h' k hA e => by cases e
  | z :: l, hl => fun U G h w args vs v h' k hA e => by
    have e : (Option.rec (sumsP l args h) (fun p => some p) (sumP z args h) : Option (V × Hp)) = some (v, h') := e
    cases hq : sumP z args h with
    | none =>
      rw [hq] at e
      exact sumsP_ok hOk l (fun y hy => hl y (List.mem_cons_of_mem _ hy)) U G h w args vs v h' k hA e
    | some p =>
      rw [hq] at e
      cases e
      obtain ⟨h1, h2, h3⟩ := hl z List.mem_cons_self
      exact sumP_ok hOk h1 h2 h3 U G h w args vs v h' k hA hq
end
end Go.Run
