/- Towards FnLint: DenZero, DenOne, DenTwo, DenThree, DenFour, DenFive, DenSix, DenSeven, DenCut, DenConv, DenEight, DenNine, DenTen, DenTwelve, DenWp, DenTab, DenOk, DenPut, DenSem, DenV, DenOkk. -/
import Derived.Calls
import Derived.Below
import Derived.Laws.Append
import Derived.Laws.Rows
import Derived.Laws.AppendOwn
import Derived.Deep.MidRow
import Derived.Tactics
import Derived.Laws.Slices
import Derived.Laws.Strings
import Derived.Laws.Entries
import Derived.Laws.CopyOwn
import Derived.Great.BuildSlice
import Derived.Laws.BytesArg
import Derived.Deep.LoopGhost
import Derived.Orders
import Derived.Lib.SliceRun
namespace Go.Den
open Go.RowKit
inductive AL where
  | int (k : IntKind) (n : Int)
  | bool (b : Bool)
  | str (s : ByteArray)
  | sl (tok : Option Nat) (len : Nat) (xs : List AL)
  | nilsl
  | undef
inductive AV where
  | one (x : AL)
  | agg (xs : List AL)
  | tup (xs : List AV)
  | junk
  | ptr (box off : Nat)
  | el (xs : List AL)
  | nilp
  | clo (f : FuncId) (caps : List AV)
  | spot (tok off : Nat)
  | cut (tok off len : Nat)
structure Ghost where
  prot : Nat → Nat → Option Value
  hdr : Nat → Option (Nat × Nat)
  box : Nat → Option Nat
  base : Nat → Nat → Option Value
structure Ghost.Le (G H : Ghost) : Prop where
  prot : ∀ b i v, G.prot b i = some v → H.prot b i = some v
  hdr : ∀ t x, G.hdr t = some x → H.hdr t = some x
  box : ∀ i b, G.box i = some b → H.box i = some b
  base : H.base = G.base
theorem Ghost.Le.refl (G : Ghost) : G.Le G := ⟨fun _ _ _ h => h, fun _ _ h => h, fun _ _ h => h, rfl⟩
theorem Ghost.Le.trans {G H K : Ghost} (h : G.Le H) (k : H.Le K) : G.Le K := ⟨fun b i v e => k.prot b i v (h.prot b i v e), fun t x e => k.hdr t x (h.hdr t x e), fun i b e => k.box i b (h.box i b e), k.base.trans h.base⟩
inductive RepL (G : Ghost) : AL → Value → Prop where
  | int (k n) : RepL G (.int k n) (.int k n)
  | bool (b) : RepL G (.bool b) (.bool b)
  | str (s) : RepL G (.str s) (.string s)
  | sl {tok : Option Nat} {len cap b o : Nat} {xs : List AL} (f : Nat → Value) (hc : len ≤ cap) (hp : ∀ i, i < xs.length → G.prot b (o + i) = some (f i)) (hx : ∀ (i : Nat) x, xs[i]? = some x → RepL G x (f i))
      (ht : ∀ t, tok = some t → o = 0 ∧ G.hdr t = some (b, cap)) : RepL G (.sl tok len xs) (.slice (some ⟨b, o, none⟩) len cap)
  | nilsl : RepL G .nilsl (.slice none 0 0)
  | undef (v) (h : v.oneCell' = true) : RepL G .undef v
theorem RepL.mono {G H : Ghost} (h : G.Le H) {x : AL} {v : Value} (r : RepL G x v) : RepL H x v := by
  induction r with
  | int => exact .int _ _
  | bool => exact .bool _
  | str => exact .str _
  | sl f hc hp hx ht ih => exact .sl f hc (fun i hi => h.prot _ _ _ (hp i hi)) (fun i x hx => ih i x hx) (fun t e => ⟨(ht t e).1, h.hdr _ _ (ht t e).2⟩)
  | nilsl => exact .nilsl
  | undef v h => exact .undef v h
def RepC (G : Ghost) (xs : List AL) (vs : List Value) : Prop := xs.length = vs.length ∧ ∀ (i : Nat) x v, xs[i]? = some x → vs[i]? = some v → RepL G x v
theorem RepC.mono {G H : Ghost} (h : G.Le H) {xs : List AL} {vs : List Value} (r : RepC G xs vs) : RepC H xs vs := ⟨r.1, fun i x v hx hv => (r.2 i x v hx hv).mono h⟩
theorem RepC.append {G : Ghost} {xs ys : List AL} {vs us : List Value} (r : RepC G xs vs) (q : RepC G ys us) : RepC G (xs ++ ys) (vs ++ us) := by
  refine ⟨by rw [List.length_append, List.length_append, r.1, q.1], fun i x v hx hv => ?_⟩
  rcases Nat.lt_or_ge i xs.length with hi | hi
  · rw [List.getElem?_append_left hi] at hx
    rw [List.getElem?_append_left (by rw [← r.1]; exact hi)] at hv
    exact r.2 i x v hx hv
  · rw [List.getElem?_append_right hi] at hx
    rw [List.getElem?_append_right (by rw [← r.1]; exact hi), ← r.1] at hv
    exact q.2 _ x v hx hv
inductive RepV (G : Ghost) : AV → Value → Prop where
  | one {x v} (h : RepL G x v) : RepV G (.one x) v
  | agg {xs : List AL} {vs : Array Value} (h : RepC G xs vs.toList) : RepV G (.agg xs) (.agg vs)
  | tup {xs : List AV} (f : Nat → Value) (h : ∀ (i : Nat) x, xs[i]? = some x → RepV G x (f i)) : RepV G (.tup xs) (.tuple ((List.range xs.length).map f).toArray)
  | junk (v) : RepV G .junk v
  | ptr {i off b : Nat} (h : G.box i = some b) : RepV G (.ptr i off) (.pointer (some ⟨b, off, none⟩))
  | el {b o : Nat} {xs : List AL} (f : Nat → Value) (hp : ∀ i, i < xs.length → G.prot b (o + i) = some (f i)) (hx : ∀ (i : Nat) x, xs[i]? = some x → RepL G x (f i)) : RepV G (.el xs) (.pointer (some ⟨b, o, none⟩))
  | nilp : RepV G .nilp (.pointer none)
  | clo (f : FuncId) {caps : List AV} (g : Nat → Value) (hx : ∀ (i : Nat) x, caps[i]? = some x → RepV G x (g i)) : RepV G (.clo f caps) (.func (.func f) #[] ((List.range caps.length).map g).toArray)
  | spot {t off b c : Nat} (h : G.hdr t = some (b, c)) : RepV G (.spot t off) (.pointer (some ⟨b, off, none⟩))
  | cut {t off b c o len cap : Nat} (h : G.hdr t = some (b, c)) (ho : 0 < len → o = off) : RepV G (.cut t off len) (.slice (some ⟨b, o, none⟩) len cap)
theorem RepV.mono {G H : Ghost} (h : G.Le H) {x : AV} {v : Value} (r : RepV G x v) : RepV H x v := by
  induction r with
  | one r => exact .one (r.mono h)
  | agg r => exact .agg (r.mono h)
  | tup f _ ih => exact .tup f (fun i x e => ih i x e)
  | junk v => exact .junk v
  | ptr hb => exact .ptr (h.box _ _ hb)
  | el f hp hx => exact .el f (fun i hi => h.prot _ _ _ (hp i hi)) (fun i x e => (hx i x e).mono h)
  | nilp => exact .nilp
  | clo f g _ ih => exact .clo f g (fun i x e => ih i x e)
  | spot hb => exact .spot (h.hdr _ _ hb)
  | cut hb ho => exact .cut (h.hdr _ _ hb) ho
structure St where
  boxes : List (TypeId × List AL)
  toks : List (Option (Nat × TypeId × Nat))
  young : List Nat
  old : Nat := 0
def St.born (S : St) (x : Nat × TypeId × Nat) : St := { S with toks := S.toks ++ [some x], young := S.toks.length :: S.young }
def St.tok (S : St) (t : Nat) : Option (Nat × TypeId × Nat) := (S.toks[t]?).bind id
structure WR (w0 : World) (A : Nat → Prop) (S : St) (G : Ghost) (w : World) : Prop where
  prot : ∀ b i v, G.prot b i = some v → w.cell? ⟨b, i, none⟩ = some v
  tok : ∀ t n e s, S.tok t = some (n, e, s) → ∃ b cap cur, G.hdr t = some (b, cap) ∧ w0.heap.size ≤ b ∧ w.heap[b]? = some (.cells cur e (0, 0)) ∧ cur.size = cap * s ∧ n ≤ cap * s ∧ cap ≤ maxLen ∧ (∀ i, i < n → (G.prot b i).isSome = true) ∧ ∀ i, n ≤ i → G.prot b i = none
  later : ∀ t, S.toks.length ≤ t → G.hdr t = none
  hlt : ∀ t b c, G.hdr t = some (b, c) → b < w.heap.size
  box : ∀ (i : Nat) t cs, S.boxes[i]? = some (t, cs) → ∃ b vs, G.box i = some b ∧ w0.heap.size ≤ b ∧ w.heap[b]? = some (.cells vs t (0, 0)) ∧ RepC G cs vs.toList ∧ ∀ j, G.prot b j = none
  more : ∀ i, S.boxes.length ≤ i → G.box i = none
  boxes : ∀ i j b, G.box i = some b → G.box j = some b → i = j
  rows : ∀ t u x y b c c', S.tok t = some x → S.tok u = some y → G.hdr t = some (b, c) → G.hdr u = some (b, c') → t = u
  apart : ∀ t x b c i, S.tok t = some x → G.hdr t = some (b, c) → G.box i ≠ some b
  size : w0.heap.size ≤ w.heap.size
  below : Below w0.heap.size w0 w
  own : ∀ t b c, t ∈ S.young → G.hdr t = some (b, c) → A b
  up : ∀ b, w.heap.size ≤ b → A b
  ylt : ∀ t, t ∈ S.young → t < S.toks.length
  hall : ∀ t, t < S.toks.length → ∃ x, G.hdr t = some x
  basep : ∀ b i, b < w0.heap.size → G.prot b i = G.base b i
  oldt : S.old ≤ S.toks.length ∧ ∀ t b c, t < S.old → G.hdr t = some (b, c) → b < w0.heap.size
section
variable {w0 : World} {A : Nat → Prop} {S : St} {G : Ghost} {w : World}
theorem WR.lt (h : WR w0 A S G w) {b i : Nat} {v : Value} (e : G.prot b i = some v) : b < w.heap.size := World.block_lt_of_cell? w _ (h.prot b i v e)
theorem WR.box_lt (h : WR w0 A S G w) {i b : Nat} (hb : G.box i = some b) : i < S.boxes.length ∧ b < w.heap.size := by
  have hi : i < S.boxes.length := by
    apply Nat.lt_of_not_le
    intro hle
    rw [h.more i hle] at hb
    cases hb
  obtain ⟨b', vs', h1, _, h3, _⟩ := h.box i _ _ (List.getElem?_eq_getElem hi)
  rw [hb] at h1
  cases h1
  exact ⟨hi, (Array.getElem?_eq_some_iff.1 h3).1⟩
theorem WR.fresh (h : WR w0 A S G w) (j : Nat) : G.prot w.heap.size j = none := by
  cases hp : G.prot w.heap.size j with
  | none => rfl
  | some v => exact absurd (h.lt hp) (Nat.lt_irrefl _)
theorem WR.drew (h : WR w0 A S G w) : WR w0 A S G w.drew := ⟨h.prot, h.tok, h.later, h.hlt, h.box, h.more, h.boxes, h.rows, h.apart, h.size, h.below.drew, h.own, h.up, h.ylt, h.hall, h.basep, h.oldt⟩
theorem WR.newBox (h : WR w0 A S G w) (t : TypeId) (cs : List AL) (vs : Array Value) (hr : RepC G cs vs.toList) :
    ∃ H : Ghost, G.Le H ∧ H.box S.boxes.length = some w.heap.size ∧ WR w0 A { S with boxes := S.boxes ++ [(t, cs)] } H (w.alloc (.cells vs t)) := by
  have hle : G.Le { G with box := fun i => if i = S.boxes.length then some w.heap.size else G.box i } := by
    refine ⟨fun _ _ _ e => e, fun _ _ e => e, fun i b hb => ?_, rfl⟩
    show (if i = S.boxes.length then some w.heap.size else G.box i) = some b
    rw [if_neg, hb]
    have := (h.box_lt hb).1
    omega
  refine ⟨{ G with box := fun i => if i = S.boxes.length then some w.heap.size else G.box i }, hle, if_pos rfl, ?_⟩
  refine ⟨fun b i v e => ?_, fun t' n e s ht => ?_, h.later, fun t b c hh => by have := h.hlt t b c hh; simp; omega, fun i t' cs' hi => ?_, fun i hi => ?_, fun i j b hi hj => ?_, h.rows, fun t' x b c i ht hh hb => ?_, by simp; have := h.size; omega, h.below.alloc h.size _, h.own, fun b hb => h.up b (by simp at hb; omega), h.ylt, h.hall, h.basep, h.oldt⟩
  · have hlt := h.lt e
    have := h.prot b i v e
    rwa [World.cell?_of_block (heap_alloc_old w _ b hlt)]
  · obtain ⟨b, cap, cur, h1, h2, h3, h4⟩ := h.tok t' n e s ht
    have hlt := (Array.getElem?_eq_some_iff.1 h3).1
    exact ⟨b, cap, cur, h1, h2, (heap_alloc_old w _ b hlt).trans h3, h4⟩
  · rcases Nat.lt_or_ge i S.boxes.length with hl | hl
    · have hi' : S.boxes[i]? = some (t', cs') := by simpa [List.getElem?_append_left hl] using hi
      obtain ⟨b, vs', h1, h2, h3, h4, h5⟩ := h.box i t' cs' hi'
      refine ⟨b, vs', hle.box i b h1, h2, (heap_alloc_old w _ b (h.box_lt h1).2).trans h3, h4.mono hle, h5⟩
    · have hi' : i = S.boxes.length := by
        have := (List.getElem?_eq_some_iff.1 hi).1
        simp at this
        omega
      subst hi'
      simp at hi
      obtain ⟨rfl, rfl⟩ := hi
      exact ⟨w.heap.size, vs, if_pos rfl, h.size, heap_alloc_new w _, hr.mono hle, h.fresh⟩
  · simp at hi
    show (if i = S.boxes.length then some w.heap.size else G.box i) = none
    rw [if_neg (by omega)]
    exact h.more i (by omega)
  · have hi' : (if i = S.boxes.length then some w.heap.size else G.box i) = some b := hi
    have hj' : (if j = S.boxes.length then some w.heap.size else G.box j) = some b := hj
    split at hi' <;> split at hj'
    · omega
    · cases hi'
      exact absurd (h.box_lt hj').2 (Nat.lt_irrefl _)
    · cases hj'
      exact absurd (h.box_lt hi').2 (Nat.lt_irrefl _)
    · exact h.boxes i j b hi' hj'
  · have hb' : (if i = S.boxes.length then some w.heap.size else G.box i) = some b := hb
    split at hb'
    · cases hb'
      exact absurd (h.hlt t' _ _ hh) (Nat.lt_irrefl _)
    · exact h.apart t' x b c i ht hh hb'
def St.spend (S : St) : Option Nat → St
  | none => S
  | some t => { S with toks := S.toks.set t none }
theorem St.tok_spend (S : St) (t : Option Nat) (u : Nat) (x : Nat × TypeId × Nat) (h : (S.spend t).tok u = some x) : S.tok u = some x ∧ t ≠ some u := by
  cases t with
  | none => exact ⟨h, by simp⟩
  | some t =>
    unfold St.tok St.spend at h
    simp only [List.getElem?_set] at h
    split at h
    · split at h <;> simp at h
    · rename_i hne
      exact ⟨h, fun e => hne (by injection e)⟩
theorem St.spend_len (S : St) (t : Option Nat) : (S.spend t).toks.length = S.toks.length ∧ (S.spend t).boxes = S.boxes := by cases t <;> simp [St.spend]
theorem St.spend_old (S : St) (t : Option Nat) : (S.spend t).old = S.old := by cases t <;> simp [St.spend]
theorem St.spend_young (S : St) (t : Option Nat) : (S.spend t).young = S.young := by cases t <;> simp [St.spend]
def St.grow (S : St) (t : Nat) (x : Nat × TypeId × Nat) : St := { S.spend (some t) with toks := (S.spend (some t)).toks ++ [some x], young := if t ∈ S.young then S.toks.length :: S.young else S.young }
theorem WR.spend (h : WR w0 A S G w) (t : Option Nat) : WR w0 A (S.spend t) G w := by
  obtain ⟨e1, e2⟩ := S.spend_len t
  exact ⟨h.prot, fun u n e s hu => h.tok u n e s (S.tok_spend t u _ hu).1, by rw [e1]; exact h.later, h.hlt, by rw [e2]; exact h.box, by rw [e2]; exact h.more, h.boxes,
    fun a b x y c d d' ha hb => h.rows a b x y c d d' (S.tok_spend t a _ ha).1 (S.tok_spend t b _ hb).1, fun a x b c i ha => h.apart a x b c i (S.tok_spend t a _ ha).1, h.size, h.below, by rw [S.spend_young]; exact h.own, h.up, by rw [e1, S.spend_young]; exact h.ylt, by rw [e1]; exact h.hall, h.basep, by rw [e1, S.spend_old]; exact h.oldt⟩
theorem WR.sub (h : WR w0 A S G w) (l : List Nat) (hl : ∀ t, t ∈ l → t ∈ S.young) : WR w0 A { S with young := l } G w :=
  ⟨h.prot, h.tok, h.later, h.hlt, h.box, h.more, h.boxes, h.rows, h.apart, h.size, h.below, fun t b c ht => h.own t b c (hl t ht), h.up, fun t ht => h.ylt t (hl t ht), h.hall, h.basep, h.oldt⟩
theorem St.tok_new (S : St) (x : Nat × TypeId × Nat) (t : Nat) (y : Nat × TypeId × Nat) (h : St.tok { S with toks := S.toks ++ [some x] } t = some y) : (t < S.toks.length ∧ S.tok t = some y) ∨ (t = S.toks.length ∧ x = y) := by
  unfold St.tok at h ⊢
  rcases Nat.lt_or_ge t S.toks.length with hl | hl
  · left
    simp only [List.getElem?_append_left hl] at h
    exact ⟨hl, h⟩
  · right
    have : t = S.toks.length := by
      cases he : (S.toks ++ [some x])[t]? with
      | none => simp [he] at h
      | some z =>
        have := (List.getElem?_eq_some_iff.1 he).1
        simp at this
        omega
    subst this
    simp at h
    exact ⟨rfl, h⟩
theorem WR.newRow (h : WR w0 A S G w) (e : TypeId) (s cap : Nat) (xs : List AL) (vs rest : List Value) (hr : RepC G xs vs) (hsz : (vs ++ rest).length = cap * s) (hcm : cap ≤ maxLen) :
    ∃ H : Ghost, G.Le H ∧ H.hdr S.toks.length = some (w.heap.size, cap) ∧ (∀ i, i < vs.length → H.prot w.heap.size i = vs[i]?) ∧
      WR w0 A (S.born (xs.length, e, s)) H (w.alloc (.cells (vs ++ rest).toArray e)) := by
  have hle : G.Le { G with prot := fun b i => if b = w.heap.size then vs[i]? else G.prot b i, hdr := fun t => if t = S.toks.length then some (w.heap.size, cap) else G.hdr t } := by
    refine ⟨fun b i v hv => ?_, fun t x hx => ?_, fun i b hb => hb, rfl⟩
    · show (if b = w.heap.size then vs[i]? else G.prot b i) = some v
      rw [if_neg, hv]
      have := h.lt hv
      omega
    · show (if t = S.toks.length then some (w.heap.size, cap) else G.hdr t) = some x
      rw [if_neg, hx]
      intro ht
      rw [h.later t (by omega)] at hx
      cases hx
  refine ⟨_, hle, if_pos rfl, fun i _ => if_pos rfl, ?_⟩
  have pne : ∀ b i, b ≠ w.heap.size → (if b = w.heap.size then vs[i]? else G.prot b i) = G.prot b i := fun b i hb => if_neg hb
  refine ⟨fun b i v hv => ?_, fun t n e' s' ht => ?_, fun t ht => ?_, fun t b c hh => ?_, fun i t cs hi => ?_, h.more, h.boxes, fun t u x y b c c' ht hu hb hc => ?_, fun t x b c i ht hh hb => ?_, by simp; have := h.size; omega, h.below.alloc h.size _, fun t b c ht hh => ?_, fun b hb => h.up b (by simp at hb; omega), fun t ht => ?_, fun t ht => ?_, fun b i hb => (pne b i (by have := h.size; omega)).trans (h.basep b i hb), ⟨by have := h.oldt.1; simp [St.born]; omega, fun t b c ht hh => ?_⟩⟩
  · have hv' : (if b = w.heap.size then vs[i]? else G.prot b i) = some v := hv
    split at hv'
    · rename_i hb
      subst hb
      have hi := (List.getElem?_eq_some_iff.1 hv').1
      unfold World.cell?
      simp only [heap_alloc_new]
      simp [List.getElem?_append_left hi, hv']
    · have hlt := h.lt hv'
      rw [World.cell?_of_block (heap_alloc_old w _ b hlt)]
      exact h.prot b i v hv'
  · rcases S.tok_new _ t _ ht with ⟨hl, ht'⟩ | ⟨rfl, hx⟩
    · obtain ⟨b, cap', cur, h1, h2, h3, h4, h5, h6, h7, h8⟩ := h.tok t n e' s' ht'
      have hlt := (Array.getElem?_eq_some_iff.1 h3).1
      have hne : b ≠ w.heap.size := by omega
      exact ⟨b, cap', cur, hle.hdr _ _ h1, h2, (heap_alloc_old w _ b hlt).trans h3, h4, h5, h6, fun i hi => by show (if b = w.heap.size then vs[i]? else G.prot b i).isSome = true; rw [pne b i hne]; exact h7 i hi, fun i hi => by show (if b = w.heap.size then vs[i]? else G.prot b i) = none; rw [pne b i hne]; exact h8 i hi⟩
    · cases hx
      rw [List.length_append] at hsz
      refine ⟨w.heap.size, cap, _, if_pos rfl, h.size, heap_alloc_new w _, by simp; omega, by rw [hr.1]; omega, hcm, fun i hi => ?_, fun i hi => ?_⟩
      · show (if w.heap.size = w.heap.size then vs[i]? else G.prot w.heap.size i).isSome = true
        rw [if_pos rfl, List.getElem?_eq_getElem (by rw [← hr.1]; exact hi)]
        rfl
      · show (if w.heap.size = w.heap.size then vs[i]? else G.prot w.heap.size i) = none
        rw [if_pos rfl, List.getElem?_eq_none (by rw [← hr.1]; exact hi)]
  · have ht : S.toks.length + 1 ≤ t := by simpa [St.born] using ht
    show (if t = S.toks.length then some (w.heap.size, cap) else G.hdr t) = none
    rw [if_neg (by omega)]
    exact h.later t (by omega)
  · have hh' : (if t = S.toks.length then some (w.heap.size, cap) else G.hdr t) = some (b, c) := hh
    split at hh'
    · cases hh'; simp
    · have := h.hlt t b c hh'; simp; omega
  · obtain ⟨b, vs', h1, h2, h3, h4, h5⟩ := h.box i t cs hi
    have hlt := (h.box_lt h1).2
    exact ⟨b, vs', h1, h2, (heap_alloc_old w _ b hlt).trans h3, h4.mono hle, fun j => by show (if b = w.heap.size then vs[j]? else G.prot b j) = none; rw [pne b j (by omega)]; exact h5 j⟩
  · have hb' : (if t = S.toks.length then some (w.heap.size, cap) else G.hdr t) = some (b, c) := hb
    have hc' : (if u = S.toks.length then some (w.heap.size, cap) else G.hdr u) = some (b, c') := hc
    rcases S.tok_new _ t _ ht with ⟨hl, ht'⟩ | ⟨rfl, hx⟩ <;> rcases S.tok_new _ u _ hu with ⟨hl', hu'⟩ | ⟨rfl, hx'⟩
    · rw [if_neg (by omega)] at hb' hc'
      exact h.rows t u _ _ b c c' ht' hu' hb' hc'
    · rw [if_neg (by omega)] at hb'
      rw [if_pos rfl] at hc'
      cases hc'
      exact absurd (h.hlt t _ _ hb') (Nat.lt_irrefl _)
    · rw [if_neg (by omega)] at hc'
      rw [if_pos rfl] at hb'
      cases hb'
      exact absurd (h.hlt u _ _ hc') (Nat.lt_irrefl _)
    · rfl
  · have hh' : (if t = S.toks.length then some (w.heap.size, cap) else G.hdr t) = some (b, c) := hh
    split at hh'
    · cases hh'
      exact absurd (h.box_lt hb).2 (Nat.lt_irrefl _)
    · rcases S.tok_new _ t _ ht with ⟨hl, ht'⟩ | ⟨rfl, hx⟩
      · exact h.apart t x b c i ht' hh' hb
      · rename_i hne
        exact absurd rfl hne
  · have hh' : (if t = S.toks.length then some (w.heap.size, cap) else G.hdr t) = some (b, c) := hh
    split at hh'
    · cases hh'
      exact h.up _ (Nat.le_refl _)
    · rcases List.mem_cons.1 ht with rfl | ht
      · rename_i hne
        exact absurd rfl hne
      · exact h.own t b c ht hh'
  · rcases List.mem_cons.1 ht with rfl | ht
    · simp [St.born]
    · have := h.ylt t ht
      simp [St.born]
      omega
  · have ht : t < S.toks.length + 1 := by simpa [St.born] using ht
    show ∃ x, (if t = S.toks.length then some (w.heap.size, cap) else G.hdr t) = some x
    split
    · exact ⟨_, rfl⟩
    · exact h.hall t (by omega)
  · have ht : t < S.old := ht
    have hl := h.oldt.1
    have hh' : (if t = S.toks.length then some (w.heap.size, cap) else G.hdr t) = some (b, c) := hh
    rw [if_neg (by omega)] at hh'
    exact h.oldt.2 t b c ht hh'
end
end Go.Den
namespace Go.Den
open Go.RowKit
section
variable {w0 : World} {A : Nat → Prop} {S : St} {G : Ghost} {w : World}
theorem WR.pushRow (h : WR w0 A S G w) {t n : Nat} {e : TypeId} {s b cap : Nat} (ht : S.tok t = some (n, e, s)) (hh : G.hdr t = some (b, cap)) (xs : List AL) (vs : List Value) (hr : RepC G xs vs)
    {w' : World} {cur cur' : Array Value} (hb : w.heap[b]? = some (.cells cur e (0, 0))) (hb' : w'.heap[b]? = some (.cells cur' e (0, 0))) (hsame : ∀ k, k ≠ b → w'.heap[k]? = w.heap[k]?) (hsz : w'.heap.size = w.heap.size) (hbel : Below b w w')
    (hold : ∀ i, i < n → cur'[i]? = cur[i]?) (hnew : ∀ i, i < vs.length → cur'[n + i]? = vs[i]?) (hcs : cur'.size = cur.size) (hfit : n + vs.length ≤ cap * s) :
    ∃ H : Ghost, G.Le H ∧ H.hdr S.toks.length = some (b, cap) ∧ (∀ i, i < vs.length → H.prot b (n + i) = vs[i]?) ∧
      WR w0 A (S.grow t (n + xs.length, e, s)) H w' := by
  obtain ⟨b0, cap0, cur0, g1, g2, g3, g4, g5, g6, g7, g8⟩ := h.tok t n e s ht
  rw [hh] at g1
  cases g1
  rw [hb] at g3
  cases g3
  have htl : t < S.toks.length := by
    apply Nat.lt_of_not_le
    intro hle
    rw [h.later t hle] at hh
    cases hh
  have hle : G.Le { G with prot := fun b' i => if b' = b ∧ n ≤ i then vs[i - n]? else G.prot b' i, hdr := fun u => if u = S.toks.length then some (b, cap) else G.hdr u } := by
    refine ⟨fun b' i v hv => ?_, fun u x hx => ?_, fun i b hb => hb, rfl⟩
    · show (if b' = b ∧ n ≤ i then vs[i - n]? else G.prot b' i) = some v
      rw [if_neg, hv]
      rintro ⟨rfl, hi⟩
      rw [g8 i hi] at hv
      cases hv
    · show (if u = S.toks.length then some (b, cap) else G.hdr u) = some x
      rw [if_neg, hx]
      intro hu
      rw [h.later u (by omega)] at hx
      cases hx
  refine ⟨_, hle, if_pos rfl, fun i _ => ?_, ?_⟩
  · show (if b = b ∧ n ≤ n + i then vs[n + i - n]? else G.prot b (n + i)) = vs[i]?
    rw [if_pos ⟨rfl, by omega⟩]
    congr 1
    omega
  have pne : ∀ b' i, b' ≠ b → (if b' = b ∧ n ≤ i then vs[i - n]? else G.prot b' i) = G.prot b' i := fun b' i hne => if_neg (fun hx => hne hx.1)
  have hs := h.spend (some t)
  have slen : (S.spend (some t)).toks.length = S.toks.length := (S.spend_len (some t)).1
  have hbox : ∀ i c, G.box i = some c → c ≠ b := fun i c hc he => h.apart t _ b cap i ht hh (he ▸ hc)
  refine ⟨fun b' i v hv => ?_, fun u m e' s' hu => ?_, fun u hu => ?_, fun u b' c hc => ?_, fun i t' cs hi => ?_, hs.more, h.boxes, fun u u' x y b' c c' hu hu' hx hy => ?_, fun u x b' c i hu hx hi => ?_, by rw [hsz]; exact h.size, h.below.trans (hbel.mono g2), fun u b' c hu hx => ?_, fun b' hb' => h.up b' (by rw [hsz] at hb'; exact hb'), fun u hu => ?_, fun u hu => ?_, fun b' i hb' => (pne b' i (by omega)).trans (h.basep b' i hb'), ⟨by have := h.oldt.1; simp [St.grow, slen, St.spend_old]; omega, fun u b' c hu hx => ?_⟩⟩
  · have hv' : (if b' = b ∧ n ≤ i then vs[i - n]? else G.prot b' i) = some v := hv
    split at hv'
    · rename_i hbi
      obtain ⟨rfl, hi⟩ := hbi
      have hl := (List.getElem?_eq_some_iff.1 hv').1
      rw [cell_of_row w' b' i cur' e (0, 0) hb']
      have := hnew (i - n) hl
      rw [show n + (i - n) = i by omega, hv'] at this
      exact this
    · by_cases hbb : b' = b
      · subst hbb
        rename_i hno
        have hi : i < n := by
          apply Nat.lt_of_not_le
          intro hle
          exact hno ⟨rfl, hle⟩
        have := h.prot b' i v hv'
        rw [cell_of_row w b' i cur e (0, 0) hb] at this
        rw [cell_of_row w' b' i cur' e (0, 0) hb', hold i hi]
        exact this
      · rw [World.cell?_of_block (hsame b' hbb)]
        exact h.prot b' i v hv'
  · rcases (S.spend (some t)).tok_new _ u _ hu with ⟨hl, hu'⟩ | ⟨rfl, hx⟩
    · obtain ⟨hu2, hne⟩ := S.tok_spend (some t) u _ hu'
      obtain ⟨b1, cap1, cur1, k1, k2, k3, k4, k5, k6, k7, k8⟩ := h.tok u m e' s' hu2
      have hb1 : b1 ≠ b := by
        rintro rfl
        exact hne (by rw [h.rows t u _ _ b1 cap cap1 ht hu2 hh k1])
      exact ⟨b1, cap1, cur1, hle.hdr _ _ k1, k2, (hsame b1 hb1).trans k3, k4, k5, k6, fun i hi => by show (if b1 = b ∧ n ≤ i then vs[i - n]? else G.prot b1 i).isSome = true; rw [pne b1 i hb1]; exact k7 i hi, fun i hi => by show (if b1 = b ∧ n ≤ i then vs[i - n]? else G.prot b1 i) = none; rw [pne b1 i hb1]; exact k8 i hi⟩
    · cases hx
      rw [slen]
      refine ⟨b, cap, cur', if_pos rfl, g2, hb', by omega, by rw [hr.1]; exact hfit, g6, fun i hi => ?_, fun i hi => ?_⟩
      · show (if b = b ∧ n ≤ i then vs[i - n]? else G.prot b i).isSome = true
        rcases Nat.lt_or_ge i n with hin | hin
        · rw [if_neg (by omega)]
          exact g7 i hin
        · rw [if_pos ⟨rfl, hin⟩, List.getElem?_eq_getElem (by rw [← hr.1]; omega)]
          rfl
      · show (if b = b ∧ n ≤ i then vs[i - n]? else G.prot b i) = none
        rw [if_pos ⟨rfl, by omega⟩, List.getElem?_eq_none (by rw [← hr.1]; omega)]
  · have hu : S.toks.length + 1 ≤ u := by simpa [St.grow, slen] using hu
    show (if u = S.toks.length then some (b, cap) else G.hdr u) = none
    rw [if_neg (by omega)]
    exact h.later u (by omega)
  · have hc' : (if u = S.toks.length then some (b, cap) else G.hdr u) = some (b', c) := hc
    rw [hsz]
    split at hc'
    · cases hc'
      exact (Array.getElem?_eq_some_iff.1 hb).1
    · exact h.hlt u b' c hc'
  · obtain ⟨b1, vs1, k1, k2, k3, k4, k5⟩ := hs.box i t' cs hi
    have hne := hbox i b1 k1
    exact ⟨b1, vs1, k1, k2, (hsame b1 hne).trans k3, k4.mono hle, fun j => by show (if b1 = b ∧ n ≤ j then vs[j - n]? else G.prot b1 j) = none; rw [pne b1 j hne]; exact k5 j⟩
  · have hx' : (if u = S.toks.length then some (b, cap) else G.hdr u) = some (b', c) := hx
    have hy' : (if u' = S.toks.length then some (b, cap) else G.hdr u') = some (b', c') := hy
    rcases (S.spend (some t)).tok_new _ u _ hu with ⟨hl, ha⟩ | ⟨rfl, _⟩ <;> rcases (S.spend (some t)).tok_new _ u' _ hu' with ⟨hl', ha'⟩ | ⟨rfl, _⟩
    · rw [slen] at hl hl'
      rw [if_neg (by omega)] at hx' hy'
      exact hs.rows u u' _ _ b' c c' ha ha' hx' hy'
    · rw [slen] at hl hy'
      rw [if_neg (by omega)] at hx'
      rw [if_pos rfl] at hy'
      cases hy'
      obtain ⟨ha2, hne⟩ := S.tok_spend (some t) u _ ha
      exact absurd (by rw [h.rows t u _ _ b cap c ht ha2 hh hx']) hne
    · rw [slen] at hl' hx'
      rw [if_neg (by omega)] at hy'
      rw [if_pos rfl] at hx'
      cases hx'
      obtain ⟨ha2, hne⟩ := S.tok_spend (some t) u' _ ha'
      exact absurd (by rw [h.rows t u' _ _ b cap c' ht ha2 hh hy']) hne
    · rfl
  · have hx' : (if u = S.toks.length then some (b, cap) else G.hdr u) = some (b', c) := hx
    split at hx'
    · cases hx'
      exact hbox i b hi rfl
    · rcases (S.spend (some t)).tok_new _ u _ hu with ⟨hl, ha⟩ | ⟨rfl, _⟩
      · exact hs.apart u x b' c i ha hx' hi
      · rename_i hne
        exact absurd slen hne
  · have hx' : (if u = S.toks.length then some (b, cap) else G.hdr u) = some (b', c) := hx
    have hu' : u ∈ (if t ∈ S.young then S.toks.length :: S.young else S.young) := hu
    split at hx'
    · rename_i hul
      cases hx'
      split at hu'
      · rename_i hty
        exact h.own t b cap hty hh
      · exact absurd (h.ylt u hu') (by omega)
    · rename_i hul
      split at hu'
      · rcases List.mem_cons.1 hu' with rfl | hu'
        · exact absurd rfl hul
        · exact h.own u b' c hu' hx'
      · exact h.own u b' c hu' hx'
  · have hu' : u ∈ (if t ∈ S.young then S.toks.length :: S.young else S.young) := hu
    rw [show (S.grow t (n + xs.length, e, s)).toks.length = S.toks.length + 1 by simp [St.grow, slen]]
    split at hu'
    · rcases List.mem_cons.1 hu' with rfl | hu'
      · omega
      · have := h.ylt u hu'
        omega
    · have := h.ylt u hu'
      omega
  · have hu : u < S.toks.length + 1 := by simpa [St.grow, slen] using hu
    show ∃ x, (if u = S.toks.length then some (b, cap) else G.hdr u) = some x
    split
    · exact ⟨_, rfl⟩
    · exact h.hall u (by omega)
  · have hu : u < S.old := by rw [← S.spend_old (some t)]; exact hu
    have hl := h.oldt.1
    have hx' : (if u = S.toks.length then some (b, cap) else G.hdr u) = some (b', c) := hx
    rw [if_neg (by omega)] at hx'
    exact h.oldt.2 u b' c hu hx'
theorem WR.setBox (h : WR w0 A S G w) {i b : Nat} {t : TypeId} {cs cs' : List AL} (hi : S.boxes[i]? = some (t, cs)) (hb : G.box i = some b) {vs' : Array Value} (hr : RepC G cs' vs'.toList)
    {w' : World} (hb' : w'.heap[b]? = some (.cells vs' t (0, 0))) (hsame : ∀ k, k ≠ b → w'.heap[k]? = w.heap[k]?) (hsz : w'.heap.size = w.heap.size) (hbel : Below b w w') :
    WR w0 A { S with boxes := S.boxes.set i (t, cs') } G w' := by
  obtain ⟨b0, vs0, g1, g2, g3, g4, g5⟩ := h.box i t cs hi
  rw [hb] at g1
  cases g1
  refine ⟨fun b' j v hv => ?_, fun u n e s hu => ?_, h.later, fun u b' c hc => by rw [hsz]; exact h.hlt u b' c hc, fun j t' ds hj => ?_, fun j hj => h.more j (by simpa using hj), h.boxes, h.rows, h.apart, by rw [hsz]; exact h.size, h.below.trans (hbel.mono g2), h.own, fun b' hb' => h.up b' (by rw [hsz] at hb'; exact hb'), h.ylt, h.hall, h.basep, h.oldt⟩
  · have hne : b' ≠ b := by
      rintro rfl
      rw [g5 j] at hv
      cases hv
    rw [World.cell?_of_block (hsame b' hne)]
    exact h.prot b' j v hv
  · obtain ⟨b1, cap1, cur1, k1, k2, k3, k4⟩ := h.tok u n e s hu
    have hne : b1 ≠ b := by
      rintro rfl
      exact h.apart u _ b1 cap1 i hu k1 hb
    exact ⟨b1, cap1, cur1, k1, k2, (hsame b1 hne).trans k3, k4⟩
  · have hj' : (S.boxes.set i (t, cs'))[j]? = some (t', ds) := hj
    rw [List.getElem?_set] at hj'
    split at hj'
    · rename_i hij
      subst hij
      split at hj'
      · cases hj'
        exact ⟨b, vs', hb, g2, hb', hr, g5⟩
      · cases hj'
    · rename_i hij
      obtain ⟨b1, vs1, k1, k2, k3, k4, k5⟩ := h.box j t' ds hj'
      have hne : b1 ≠ b := by
        rintro rfl
        exact hij (h.boxes i j b1 hb k1)
      exact ⟨b1, vs1, k1, k2, (hsame b1 hne).trans k3, k4, k5⟩
theorem setCells_block (b : Nat) : ∀ (vs : List Value) (o : Nat) (w : World) (cur : Array Value) (t : TypeId), w.heap[b]? = some (.cells cur t (0, 0)) → o + vs.length ≤ cur.size →
    ∃ cur' : Array Value, (w.setCells b o vs).heap[b]? = some (.cells cur' t (0, 0)) ∧ cur'.toList = cur.toList.take o ++ vs ++ cur.toList.drop (o + vs.length) ∧
      (∀ k, k ≠ b → (w.setCells b o vs).heap[k]? = w.heap[k]?) ∧ (w.setCells b o vs).heap.size = w.heap.size ∧ Below b w (w.setCells b o vs)
  | [], o, w, cur, t, h, _ => ⟨cur, h, by simp, fun _ _ => rfl, rfl, Below.refl _ _⟩
  | v :: vs, o, w, cur, t, h, hl => by
    have hl' : o + (vs.length + 1) ≤ cur.size := hl
    have h1 := heap_setCell_same w b o cur t v h
    obtain ⟨cur', k1, k2, k3, k4, k5⟩ := setCells_block b vs (o + 1) (w.setCell ⟨b, o, none⟩ v) _ t h1 (by simp; omega)
    refine ⟨cur', k1, ?_, fun k hk => (k3 k hk).trans (heap_setCell_other w _ k v hk), k4.trans (by simp [World.setCell]), ((Below.refl b w).setCell (p := ⟨b, o, none⟩) (Nat.le_refl b) v).trans k5⟩
    rw [k2]
    apply List.ext_getElem?
    intro j
    have hlen : cur.toList.length = cur.size := Array.length_toList
    simp only [Array.toList_setIfInBounds, List.getElem?_append, List.length_append, List.length_take, List.length_set, List.length_cons, List.getElem?_take, List.getElem?_drop, List.getElem?_set, hlen]
    have e1 : min (o + 1) cur.size = o + 1 := by omega
    have e2 : min o cur.size = o := by omega
    rw [e1, e2]
    rcases Nat.lt_trichotomy j o with hj | hj | hj
    · rw [if_pos (by omega), if_pos (by omega), if_pos (by omega), if_neg (by omega), if_pos (by omega), if_pos (by omega), if_pos (by omega)]
    · subst hj
      rw [if_pos (by omega), if_pos (by omega), if_pos (by omega), if_pos rfl, if_pos (by omega), if_pos (by omega), if_neg (by omega)]
      simp
    · have hjo : j - o = (j - (o + 1)) + 1 := by omega
      by_cases hjl : j < o + 1 + vs.length
      · rw [if_pos (by omega), if_neg (by omega), if_pos (by omega), if_neg (by omega), hjo]
        rfl
      · rw [if_neg (by omega), if_neg (by omega), if_neg (by omega)]
        congr 1
        omega
end
end Go.Den
namespace Go.Den
open Go.RowKit
structure D where
  row : Bool
  size : Nat
  bytes : Nat
  offs : List (Option Nat)
  elem : Option TypeId
  isBool : Bool
  isStr : Bool
  ik : Option IntKind
  parts : List (Nat × Nat)
  zero : List AL
structure Tab where
  desc : TypeId → Option D
  own : Bool
structure D.Ok (P : Program) (t : TypeId) (d : D) : Prop where
  info : ∃ i z, P.info? t = some i ∧ i.size = d.size ∧ i.bytes = d.bytes ∧ i.zero = some z ∧ ∀ G, RepC G d.zero z.cells.toList
  und : ∃ u, P.underlying t = some u ∧ u.isRow = d.row ∧ (∀ e, d.elem = some e → u = .slice e) ∧ (d.isBool = true → u = .bool) ∧ (d.isStr = true → u = .string) ∧ (∀ k, d.ik = some k → u = .int k)
  field : ∀ (f : Nat) o, d.offs[f]? = some (some o) → ∃ fields fld, P.underlying t = some (.struct fields) ∧ fields[f]? = some fld ∧ fld.offset = o ∧ ∃ i, P.info? fld.type = some i ∧ i.size ≠ 0

  /-- a struct that is built, of parts at places told -/
  built : d.parts ≠ [] → ∃ i z fields, P.info? t = some i ∧ i.zero = some z ∧ P.underlying t = some (.struct fields) ∧ fields.toList.mapM (fun f => (P.info? f.type).map fun i => (f.offset, i.size)) = some d.parts ∧ ∀ G, RepC G d.zero z.cells.toList
def Tab.Ok (T : Tab) (P : Program) : Prop := ∀ t d, T.desc t = some d → d.Ok P t
def dBin (T : Tab) (op : BinOp) (xt : TypeId) : AL → AL → Option AL
  | .int k a, .int k' b =>
    match op with
    | .shl => if 0 ≤ b then some (.int k (k.wrap (a * 2 ^ min b.toNat k.bits))) else none
    | .shr => if 0 ≤ b then some (.int k (a.fdiv (2 ^ min b.toNat k.bits))) else none
    | .add => if k = k' then some (.int k (k.wrap (a + b))) else none
    | .sub => if k = k' then some (.int k (k.wrap (a - b))) else none
    | .mul => if k = k' then some (.int k (k.wrap (a * b))) else none
    | .quo => if k = k' then (if b = 0 then none else some (.int k (k.wrap (a.tdiv b)))) else none
    | .rem => if k = k' then (if b = 0 then none else some (.int k (a.tmod b))) else none
    | .and => if k = k' then some (.int k (k.wrap ((BitVec.ofInt k.bits a &&& BitVec.ofInt k.bits b).toNat : Nat))) else none
    | .or => if k = k' then some (.int k (k.wrap ((BitVec.ofInt k.bits a ||| BitVec.ofInt k.bits b).toNat : Nat))) else none
    | .xor => if k = k' then some (.int k (k.wrap ((BitVec.ofInt k.bits a ^^^ BitVec.ofInt k.bits b).toNat : Nat))) else none
    | .andNot => none
    | .eql => if k = k' then some (.bool (a == b)) else none
    | .neq => if k = k' then some (.bool (a != b)) else none
    | .lss => if k = k' then some (.bool (decide (a < b))) else none
    | .leq => if k = k' then some (.bool (decide (a ≤ b))) else none
    | .gtr => if k = k' then some (.bool (decide (a > b))) else none
    | .geq => if k = k' then some (.bool (decide (a ≥ b))) else none
  | .str x, .str y =>
    match op with
    | .add => if x.size + y.size ≤ 9223372036854775807 then some (.str (x ++ y)) else none
    | .eql => some (.bool (x.toList == y.toList))
    | .neq => some (.bool (!(x.toList == y.toList)))
    | .lss => some (.bool (Op.bytesLess x.toList y.toList))
    | .leq => some (.bool (Op.bytesLess x.toList y.toList || x.toList == y.toList))
    | .gtr => some (.bool (!(Op.bytesLess x.toList y.toList || x.toList == y.toList)))
    | .geq => some (.bool (!Op.bytesLess x.toList y.toList))
    | _ => none
  | .bool a, .bool b =>
    match T.desc xt with
    | some d => if d.isBool = true then (match op with | .eql => some (.bool (a == b)) | .neq => some (.bool (!(a == b))) | _ => none) else none
    | none => none
  | _, _ => none
section
variable {P : Program} {T : Tab} {G : Ghost}
theorem run_equal_bools {t : TypeId} (hu : P.underlying t = some .bool) (a b : Bool) (w : World) : (Op.equal t (.bool a) (.bool b)).run P w = .ok (a == b) w := by
  show (Op.equalIn (9999 + 1) t (.bool a) (.bool b)).run P w = _
  rw [Op.equalIn, Sem.run_bind, run_underlying hu]
  rfl
theorem dBin_ok (hT : T.Ok P) {op : BinOp} {xt : TypeId} {x y r : AL} {vx vy : Value} (ox oy : Operand) (h : dBin T op xt x y = some r) (rx : RepL G x vx) (ry : RepL G y vy) :
    ∃ vr, RepL G r vr ∧ ∀ w, (do eqGuard op xt ox oy vx vy; binOp op xt vx vy : Sem Value).run P w = .ok vr w := by
  unfold dBin at h
  split at h
  · cases rx
    cases ry
    cases op <;> simp only [] at h <;> (repeat' split at h) <;> first
      | (cases h; done)
      | (cases h
         subst_vars
         exact ⟨_, by constructor, fun w => by first | (simp_all [eqGuard, binOp, Op.shift, Op.intArith, Op.intDiv, Op.intBits, Op.intCmp]; done) | (simp_all [eqGuard, binOp, Op.shift]; intro hh; omega)⟩)
  · cases rx
    cases ry
    cases op <;> simp only [] at h <;> (repeat' split at h) <;> first
      | (cases h; done)
      | (cases h
         exact ⟨_, by constructor, fun w => by
           first
           | (simp [eqGuard, binOp, Op.stringOp]; done)
           | (simp_all [eqGuard, binOp, Op.stringOp, IntKind.max, IntKind.signed, IntKind.bits]; done)
           | (simp_all [eqGuard, binOp, Op.stringOp, IntKind.max, IntKind.signed, IntKind.bits]; intro hh; omega)
           | (simp_all [eqGuard, binOp, Op.stringOp, IntKind.max, IntKind.signed, IntKind.bits]; omega)⟩)
  · cases rx
    cases ry
    split at h
    · rename_i d hd
      split at h
      · rename_i hb
        obtain ⟨u, hu, _, _, hub, _⟩ := (hT xt d hd).und
        obtain rfl := hub hb
        split at h
        · cases h
          exact ⟨_, .bool _, fun w => by rw [Sem.run_bind]; simp only [eqGuard, binOp, Sem.run_bind, run_equal_bools hu]; rfl⟩
        · cases h
          exact ⟨_, .bool _, fun w => by rw [Sem.run_bind]; simp only [eqGuard, binOp, Sem.run_bind, run_equal_bools hu]; rfl⟩
        · cases h
      · cases h
    · cases h
  · cases h
end
end Go.Den
namespace Go.Den
open Go.RowKit
def AV.flat : AV → Option (List AL)
  | .one x => some [x]
  | .agg xs => some xs
  | _ => none
section
variable {P : Program} {T : Tab} {G : Ghost} {w0 : World} {A : Nat → Prop} {S : St} {w : World}
theorem RepL.oneCell {x : AL} {v : Value} (r : RepL G x v) : v.oneCell' = true := by cases r <;> first | rfl | assumption
theorem cells_one {v : Value} (h : v.oneCell' = true) : v.cells = #[v] := by cases v <;> first | rfl | (simp [Value.oneCell'] at h)
theorem RepC.drop {xs : List AL} {vs : List Value} (r : RepC G xs vs) (n : Nat) : RepC G (xs.drop n) (vs.drop n) := by
  refine ⟨by rw [List.length_drop, List.length_drop, r.1], fun i x v hx hv => ?_⟩
  rw [List.getElem?_drop] at hx hv
  exact r.2 _ x v hx hv
theorem RepC.take {xs : List AL} {vs : List Value} (r : RepC G xs vs) (n : Nat) : RepC G (xs.take n) (vs.take n) := by
  refine ⟨by rw [List.length_take, List.length_take, r.1], fun i x v hx hv => ?_⟩
  rw [List.getElem?_take] at hx hv
  split at hx
  · rw [if_pos (by assumption)] at hv
    exact r.2 _ x v hx hv
  · cases hx
theorem RepC.one {x : AL} {v : Value} (r : RepL G x v) : RepC G [x] [v] := by
  refine ⟨rfl, fun i y u hx hv => ?_⟩
  match i with
  | 0 => simp at hx hv; subst hx; subst hv; exact r
  | i + 1 => simp at hx
theorem RepC.of_fun {xs : List AL} (f : Nat → Value) (hx : ∀ (i : Nat) x, xs[i]? = some x → RepL G x (f i)) : RepC G xs ((List.range xs.length).map f) := by
  refine ⟨by simp, fun i x v h1 h2 => ?_⟩
  have hi := (List.getElem?_eq_some_iff.1 h1).1
  rw [List.getElem?_map, List.getElem?_range hi] at h2
  cases h2
  exact hx i x h1
theorem RepC.oneCell {xs : List AL} {vs : List Value} (r : RepC G xs vs) : ∀ v ∈ vs, v.oneCell' = true := by
  intro v hv
  obtain ⟨i, hi, rfl⟩ := List.getElem_of_mem hv
  have hl : i < xs.length := by rw [r.1]; exact hi
  have := r.2 i xs[i] vs[i] (List.getElem?_eq_getElem hl) (List.getElem?_eq_getElem hi)
  exact this.oneCell
theorem RepV.flat {x : AV} {v : Value} (r : RepV G x v) {xs : List AL} (h : x.flat = some xs) : RepC G xs v.cells.toList ∧ ∀ u ∈ v.cells.toList, u.oneCell' = true := by
  cases r with
  | one r =>
    cases h
    have h1 := r.oneCell
    rw [cells_one h1]
    exact ⟨.one r, fun u hu => by simp at hu; subst hu; exact h1⟩
  | agg r =>
    cases h
    exact ⟨r, r.oneCell⟩
  | _ => cases h
def dLoad (T : Tab) (t : TypeId) (p : AV) (S : St) : Option AV :=
  (T.desc t).bind fun d => match p with
    | .ptr i off => (S.boxes[i]?).bind fun bx => if d.row = true then (if off + d.size ≤ bx.2.length then some (.agg ((bx.2.drop off).take d.size)) else none) else (bx.2[off]?).map .one
    | .el xs => if d.row = true then (if d.size ≤ xs.length then some (.agg (xs.take d.size)) else none) else (xs[0]?).map .one
    | _ => none
theorem load_range (hT : T.Ok P) {t : TypeId} {d : D} (hd : T.desc t = some d) {b o : Nat} {xs : List AL} {vs : List Value} (hr : RepC G xs vs) (hc : w.rangeAt b o vs) {r : AV}
    (h : (if d.row = true then (if d.size ≤ xs.length then some (AV.agg (xs.take d.size)) else none) else (xs[0]?).map .one) = some r) :
    ∃ vr, RepV G r vr ∧ (Instr.loadAt t (.pointer (some ⟨b, o, none⟩))).run P w = .ok vr w := by
  obtain ⟨i, z, hi, hs, _⟩ := (hT t d hd).info
  obtain ⟨u, hu, hrow, _⟩ := (hT t d hd).und
  split at h
  · rename_i hrw
    split at h
    · rename_i hsz
      cases h
      refine ⟨.agg (vs.take d.size).toArray, .agg (by simpa using hr.take d.size), ?_⟩
      refine run_loadAt_mid w b o t (vs.take d.size) u (fun j v hv => ?_) hu (hrow.trans hrw) ?_
      · rw [List.getElem?_take] at hv
        split at hv
        · exact hc j v hv
        · cases hv
      · rw [hi, List.length_take, ← hr.1]
        simp
        omega
    · cases h
  · rename_i hrw
    obtain ⟨x, hx, rfl⟩ := Option.map_eq_some_iff.1 h
    have h0 : 0 < vs.length := by rw [← hr.1]; exact (List.getElem?_eq_some_iff.1 hx).1
    refine ⟨vs[0], .one (hr.2 0 x vs[0] hx (List.getElem?_eq_getElem h0)), ?_⟩
    have hcell := hc 0 vs[0] (List.getElem?_eq_getElem h0)
    rw [Nat.add_zero] at hcell
    have hagg : (isAgg t).run P w = .ok false w := by
      have hn : u.isRow = false := by rw [hrow]; simpa using hrw
      unfold isAgg
      rw [Sem.run_bind, run_underlying hu w]
      cases u <;> simp_all [TypeDesc.isRow]
    simp only [Instr.loadAt, Instr.sureAddr, loadVar, Sem.run_bind, Sem.run_pure, Result.andThen_ok, hagg]
    simp [hcell]
theorem dLoad_ok (hT : T.Ok P) (hW : WR w0 A S G w) {t : TypeId} {p : AV} {r : AV} (h : dLoad T t p S = some r) {vp : Value} (rp : RepV G p vp) :
    ∃ vr, RepV G r vr ∧ (Instr.loadAt t vp).run P w = .ok vr w := by
  unfold dLoad at h
  obtain ⟨d, hd, h⟩ := Option.bind_eq_some_iff.1 h
  cases rp with
  | @ptr i off b hb =>
    obtain ⟨bx, hbx, h⟩ := Option.bind_eq_some_iff.1 h
    obtain ⟨b', vs, h1, _, h3, h4, _⟩ := hW.box i bx.1 bx.2 hbx
    rw [hb] at h1
    cases h1
    refine load_range hT hd (xs := bx.2.drop off) (vs := vs.toList.drop off) (h4.drop off) (fun j v hv => ?_) (r := r) ?_
    · rw [cell_of_row w b _ vs bx.1 (0, 0) h3]
      rw [List.getElem?_drop] at hv
      simpa using hv
    · rw [List.length_drop, List.getElem?_drop, Nat.add_zero]
      split at h
      · rename_i hrw
        rw [if_pos hrw]
        split at h
        · rw [if_pos (by omega)]
          exact h
        · cases h
      · rename_i hrw
        rw [if_neg hrw]
        exact h
  | @el b o xs f hp hx =>
    refine load_range hT hd (xs := xs) (vs := (List.range xs.length).map f) (RepC.of_fun f hx) (fun j v hv => ?_) h
    rw [List.getElem?_map] at hv
    obtain ⟨k, hk, rfl⟩ := Option.map_eq_some_iff.1 hv
    have hj : j < xs.length := by simpa using (List.getElem?_eq_some_iff.1 hk).1
    rw [List.getElem?_range hj] at hk
    cases hk
    exact hW.prot b _ _ (hp j hj)
  | _ => cases h
def dStore (T : Tab) (t : TypeId) (p : AV) (v : AV) (S : St) : Option St :=
  (T.desc t).bind fun d => match p with
    | .ptr i off => (S.boxes[i]?).bind fun bx => (v.flat).bind fun xs => if xs.length = d.size then (if off + xs.length ≤ bx.2.length then some { S with boxes := S.boxes.set i (bx.1, bx.2.take off ++ xs ++ bx.2.drop (off + xs.length)) } else none) else none
    | _ => none
theorem dStore_ok (hT : T.Ok P) (hW : WR w0 A S G w) {t : TypeId} {p : AV} {x : AV} {S' : St} (h : dStore T t p x S = some S') {vp vx : Value} (rp : RepV G p vp) (rx : RepV G x vx) :
    ∃ w', WR w0 A S' G w' ∧ (Instr.storeAt t vp vx).run P w = .ok () w' := by
  unfold dStore at h
  obtain ⟨d, hd, h⟩ := Option.bind_eq_some_iff.1 h
  cases rp with
  | @ptr i off b hb =>
    obtain ⟨bx, hbx, h⟩ := Option.bind_eq_some_iff.1 h
    obtain ⟨xs, hxs, h⟩ := Option.bind_eq_some_iff.1 h
    split at h
    · rename_i hsz
      split at h
      · rename_i hfit
        cases h
        obtain ⟨b', vs, h1, _, h3, h4, h5⟩ := hW.box i bx.1 bx.2 hbx
        rw [hb] at h1
        cases h1
        obtain ⟨r1, r2⟩ := rx.flat hxs
        obtain ⟨ii, z, hi, hs, _⟩ := (hT t d hd).info
        have hlen : vx.cells.toList.length = xs.length := r1.1.symm
        have hvl : vs.toList.length = bx.2.length := h4.1.symm
        have hvs : vs.size = bx.2.length := by rw [← hvl]; simp
        obtain ⟨cur', k1, k2, k3, k4, k5⟩ := setCells_block b vx.cells.toList off w vs bx.1 h3 (by omega)
        refine ⟨w.setCells b off vx.cells.toList, hW.setBox hbx hb (vs' := cur') ?_ k1 k3 k4 k5, ?_⟩
        · rw [k2, hlen]
          exact ((h4.take off).append r1).append (h4.drop _)
        · have hcell : ∀ j, w.cell? ⟨b, j, none⟩ = vs[j]? := fun j => cell_of_row w b j vs bx.1 (0, 0) h3
          have := run_storeCells_cells (P := P) b off vx.cells.toList 0 w (fun j hj => by rw [hcell, Nat.add_zero, Array.getElem?_eq_getElem (by omega)]; rfl) (fun j hj => by simp [World.frozen?, h3]) (fun v hv => r2 v hv)
          have hsize : vx.cells.size = ii.size := by rw [hs, ← hsz, ← hlen]; simp
          simp only [Nat.add_zero] at this
          simp [Instr.storeAt, Instr.sureAddr, storeVar, sizeOf, typeInfo, hi, hsize, this]
      · cases h
    · cases h
  | _ => cases h
end
end Go.Den
namespace Go.Den
open Go.RowKit
theorem splice_step {α : Type} (l : List α) (o : Nat) (v : α) (vs : List α) (h : o + (vs.length + 1) ≤ l.length) :
    (l.set o v).take (o + 1) ++ vs ++ (l.set o v).drop (o + 1 + vs.length) = l.take o ++ (v :: vs) ++ l.drop (o + (vs.length + 1)) := by
  apply List.ext_getElem?
  intro j
  simp only [List.getElem?_append, List.length_append, List.length_take, List.length_set, List.length_cons, List.getElem?_take, List.getElem?_drop, List.getElem?_set]
  have e1 : min (o + 1) l.length = o + 1 := by omega
  have e2 : min o l.length = o := by omega
  rw [e1, e2]
  rcases Nat.lt_trichotomy j o with hj | hj | hj
  · rw [if_pos (by omega), if_pos (by omega), if_pos (by omega), if_neg (by omega), if_pos (by omega), if_pos (by omega), if_pos (by omega)]
  · subst hj
    rw [if_pos (by omega), if_pos (by omega), if_pos (by omega), if_pos rfl, if_pos (by omega), if_pos (by omega), if_neg (by omega)]
    simp
  · have hjo : j - o = (j - (o + 1)) + 1 := by omega
    by_cases hjl : j < o + 1 + vs.length
    · rw [if_pos (by omega), if_neg (by omega), if_pos (by omega), if_neg (by omega), hjo]
      rfl
    · rw [if_neg (by omega), if_neg (by omega), if_neg (by omega)]
      congr 1
      omega
theorem foldl_set (off : Nat) : ∀ (l : List Value) (k : Nat) (cells : Array Value), off + k + l.length ≤ cells.size →
    ((l.zipIdx k).foldl (fun (cs : Array Value) (p : Value × Nat) => cs.setIfInBounds (off + p.2) p.1) cells).toList = cells.toList.take (off + k) ++ l ++ cells.toList.drop (off + k + l.length)
  | [], k, cells, _ => by simp
  | v :: l, k, cells, h => by
    have h' : off + k + (l.length + 1) ≤ cells.size := h
    rw [List.zipIdx_cons, List.foldl_cons, foldl_set off l (k + 1) _ (by simp; omega)]
    have := splice_step cells.toList (off + k) v l (by simpa using h')
    simpa [Nat.add_assoc, Nat.add_comm 1] using this
def dFill (place : Nat → Option (Nat × Nat)) (cells : List AL) : List (Nat × AV) → Option (List AL)
  | [] => some cells
  | (i, v) :: rest => (place i).bind fun p => (v.flat).bind fun xs => if xs.length = p.2 then (if p.1 + xs.length ≤ cells.length then dFill place (cells.take p.1 ++ xs ++ cells.drop (p.1 + xs.length)) rest else none) else none
inductive RepP (G : Ghost) : List (Nat × AV) → List (Nat × Value) → Prop where
  | nil : RepP G [] []
  | cons {i : Nat} {x : AV} {v : Value} {xs : List (Nat × AV)} {vs : List (Nat × Value)} (h : RepV G x v) (t : RepP G xs vs) : RepP G ((i, x) :: xs) ((i, v) :: vs)
section
variable {P : Program} {T : Tab} {G : Ghost} {w0 : World} {A : Nat → Prop} {S : St} {w : World}
theorem dFill_ok (place : Nat → Option (Nat × Nat)) : ∀ (parts : List (Nat × AV)) (ps : List (Nat × Value)) (cells : List AL) (vs : Array Value) (r : List AL), RepP G parts ps → RepC G cells vs.toList → dFill place cells parts = some r →
    ∃ us : Array Value, Instr.fill place vs ps = some us ∧ RepC G r us.toList
  | [], _, cells, vs, r, hp, hr, h => by
    cases hp
    cases h
    exact ⟨vs, rfl, hr⟩
  | (i, x) :: parts, _, cells, vs, r, hp, hr, h => by
    cases hp with
    | @cons _ _ v _ ps hx ht =>
      simp only [dFill] at h
      obtain ⟨⟨off, size⟩, hpl, h⟩ := Option.bind_eq_some_iff.1 h
      obtain ⟨xs, hxs, h⟩ := Option.bind_eq_some_iff.1 h
      split at h
      · rename_i hsz
        split at h
        · rename_i hfit
          obtain ⟨r1, _⟩ := hx.flat hxs
          have hl1 : v.cells.size = xs.length := by rw [r1.1]; simp
          have hl2 : vs.size = cells.length := by rw [hr.1]; simp
          have hf := foldl_set off v.cells.toList 0 vs (by simp at hfit; simp; omega)
          have key : (v.cells.zipIdx.foldl (fun (cs : Array Value) (p : Value × Nat) => cs.setIfInBounds (off + p.2) p.1) vs).toList = vs.toList.take off ++ v.cells.toList ++ vs.toList.drop (off + v.cells.size) := by
            rw [← Array.foldl_toList, Array.toList_zipIdx]
            simpa using hf
          obtain ⟨us, h1, h2⟩ := dFill_ok place parts ps _ (v.cells.zipIdx.foldl (fun (cs : Array Value) (p : Value × Nat) => cs.setIfInBounds (off + p.2) p.1) vs) r ht (by
            rw [key, hl1]
            exact ((hr.take off).append r1).append (hr.drop _)) h
          refine ⟨us, ?_, h2⟩
          simp only [Instr.fill, hpl]
          rw [if_neg (by simp at hsz hfit; simp; omega)]
          exact h1
        · cases h
      · cases h
end
end Go.Den
namespace Go.Den
open Go.RowKit
section
variable {P : Program} {T : Tab} {G : Ghost} {w0 : World} {A : Nat → Prop} {S : St} {w : World}
def dBox (t : TypeId) (v : AV) (S : St) : Option (AV × St) := (v.flat).map fun xs => (.ptr S.boxes.length 0, { S with boxes := S.boxes ++ [(t, xs)] })
theorem dBox_ok (hW : WR w0 A S G w) {t : TypeId} {v : AV} {r : AV} {S' : St} (h : dBox t v S = some (r, S')) {vx : Value} (rx : RepV G v vx) :
    ∃ H vr w', G.Le H ∧ RepV H r vr ∧ WR w0 A S' H w' ∧ (Instr.box t vx).run P w = .ok vr w' := by
  obtain ⟨xs, hxs, he⟩ := Option.map_eq_some_iff.1 h
  cases he
  obtain ⟨r1, _⟩ := rx.flat hxs
  obtain ⟨H, hle, hb, hw⟩ := hW.newBox t xs vx.cells r1
  exact ⟨H, _, _, hle, .ptr hb, hw, by simp [Instr.box, newVar, newRow]⟩
def dAlloc (T : Tab) (t : TypeId) (S : St) : Option (AV × St) := (T.desc t).map fun d => (.ptr S.boxes.length 0, { S with boxes := S.boxes ++ [(t, d.zero)] })
theorem dAlloc_ok (hT : T.Ok P) (hW : WR w0 A S G w) {t : TypeId} {r : AV} {S' : St} (h : dAlloc T t S = some (r, S')) :
    ∃ H vr w', G.Le H ∧ RepV H r vr ∧ WR w0 A S' H w' ∧ (Instr.alloc t true (.tuple #[])).run P w = .ok vr w' := by
  obtain ⟨d, hd, he⟩ := Option.map_eq_some_iff.1 h
  cases he
  obtain ⟨i, z, hi, _, _, hz, hr⟩ := (hT t d hd).info
  obtain ⟨H, hle, hb, hw⟩ := hW.newBox t d.zero z.cells (hr G)
  exact ⟨H, _, _, hle, .ptr hb, hw, by simp [Instr.alloc, zeroValue, typeInfo, hi, hz, newVar, newRow]⟩
def dBuild (T : Tab) (t : TypeId) (parts : List (Nat × AV)) : Option AV :=
  (T.desc t).bind fun d => if d.parts = [] then none else (dFill (d.parts[·]?) d.zero parts).map .agg
theorem dBuild_ok (hT : T.Ok P) {t : TypeId} {parts : List (Nat × AV)} {r : AV} (h : dBuild T t parts = some r) {ps : Array (Nat × Value)} (hp : RepP G parts ps.toList) :
    ∃ vr, RepV G r vr ∧ ∀ w, (Instr.build t ps).run P w = .ok vr w := by
  unfold dBuild at h
  obtain ⟨d, hd, h⟩ := Option.bind_eq_some_iff.1 h
  split at h
  · cases h
  · rename_i hne
    obtain ⟨xs, hxs, he⟩ := Option.map_eq_some_iff.1 h
    cases he
    obtain ⟨i, z, fields, hi, hz, hu, hm, hr⟩ := (hT t d hd).built hne
    obtain ⟨us, h1, h2⟩ := dFill_ok (G := G) _ parts ps.toList d.zero z.cells xs hp (hr G) hxs
    refine ⟨.agg us, .agg h2, fun w => run_build w t ps us ?_⟩
    unfold Program.built
    rw [hi, hu]
    simp only [hz, hm]
    rw [← h1]
    congr 1
    funext j
    simp
def dField (T : Tab) (t : TypeId) (p : AV) (f : Nat) : Option AV :=
  (T.desc t).bind fun d => (d.offs[f]?).bind fun o => o.bind fun o => match p with
    | .ptr i off => some (.ptr i (off + o))
    | .el xs => some (.el (xs.drop o))
    | .spot t off => some (.spot t (off + o))
    | _ => none
theorem el_drop {b o n : Nat} {xs : List AL} {f : Nat → Value} (hp : ∀ i, i < xs.length → G.prot b (o + i) = some (f i)) (hx : ∀ (i : Nat) x, xs[i]? = some x → RepL G x (f i)) :
    RepV G (.el (xs.drop n)) (.pointer (some ⟨b, o + n, none⟩)) :=
  .el (fun i => f (n + i)) (fun i hi => by rw [Nat.add_assoc]; exact hp _ (by rw [List.length_drop] at hi; omega)) (fun i x hx' => hx (n + i) x (by rw [List.getElem?_drop] at hx'; exact hx'))
theorem dField_ok (hT : T.Ok P) {t : TypeId} {p : AV} {f : Nat} {r : AV} (h : dField T t p f = some r) {vp : Value} (rp : RepV G p vp) :
    ∃ vr, RepV G r vr ∧ ∀ w, (Instr.fieldAt t vp f).run P w = .ok vr w := by
  unfold dField at h
  obtain ⟨d, hd, h⟩ := Option.bind_eq_some_iff.1 h
  obtain ⟨o, ho, h⟩ := Option.bind_eq_some_iff.1 h
  obtain ⟨o', ho', h⟩ := Option.bind_eq_some_iff.1 h
  subst ho'
  obtain ⟨fields, fld, hu, hf, rfl, i, hi, hs⟩ := (hT t d hd).field f o' ho
  have key : ∀ a w, (Instr.fieldAt t (.pointer (some a)) f).run P w = .ok (.pointer (some (a.add fld.offset))) w := by
    intro a w
    simp [Instr.fieldAt, run_underlying hu, hf, Instr.sureAddr, fieldPlace, sizeOf, typeInfo, hi, hs]
  cases rp with
  | ptr hb =>
    cases h
    exact ⟨_, .ptr hb, fun w => by rw [key, Addr.add_mid]⟩
  | el g hp hx =>
    cases h
    exact ⟨_, el_drop hp hx, fun w => by rw [key, Addr.add_mid]⟩
  | spot hb =>
    cases h
    exact ⟨_, .spot hb, fun w => by rw [key, Addr.add_mid]⟩
  | _ => cases h
def dIndexAddr (T : Tab) (t : TypeId) (x i : AL) : Option AV :=
  (T.desc t).bind fun d => d.elem.bind fun e => (T.desc e).bind fun de => match x, i with
    | .sl _ len xs, .int _ i => if 0 ≤ i ∧ i < len then some (.el (xs.drop (i.toNat * de.size))) else none
    | _, _ => none
theorem elem_eq {t e : TypeId} (hu : P.underlying t = some (.slice e)) : P.elem t = e := by simp [Program.elem, hu]
theorem dIndexAddr_ok (hT : T.Ok P) {t : TypeId} {x i : AL} {r : AV} (h : dIndexAddr T t x i = some r) {vx vi : Value} (rx : RepL G x vx) (ri : RepL G i vi) :
    ∃ vr, RepV G r vr ∧ ∀ w, (Instr.indexAt t vx vi).run P w = .ok vr w := by
  unfold dIndexAddr at h
  obtain ⟨d, hd, h⟩ := Option.bind_eq_some_iff.1 h
  obtain ⟨e, he, h⟩ := Option.bind_eq_some_iff.1 h
  obtain ⟨de, hde, h⟩ := Option.bind_eq_some_iff.1 h
  obtain ⟨u, hu, _, hel, _⟩ := (hT t d hd).und
  obtain rfl := hel e he
  obtain ⟨ie, z, hie, hs, _⟩ := (hT e de hde).info
  split at h
  · cases rx with
    | sl f hc hp hx ht =>
      cases ri
      split at h
      · rename_i hb
        cases h
        refine ⟨_, el_drop hp hx, fun w => ?_⟩
        rw [run_indexAt_slice (P := P) (w := w) t _ _ _ _ _ (by rw [elem_eq hu]; exact hu), if_pos hb, elem_eq hu]
        simp [sizeOf, typeInfo, hie, hs, Addr.add_mid]
      · cases h
  · cases h
def dIndex (T : Tab) (t : TypeId) (x i : AL) : Option AL :=
  (T.desc t).bind fun d => if d.isStr = true then (match x, i with
    | .str s, .int _ i => if hi : 0 ≤ i ∧ i < s.size then some (.int .u8 ((s[i.toNat]'(by omega)).toNat : Int)) else none
    | _, _ => none) else none
theorem dIndex_ok (hT : T.Ok P) {t : TypeId} {x i : AL} {r : AL} (h : dIndex T t x i = some r) {vx vi : Value} (rx : RepL G x vx) (ri : RepL G i vi) :
    ∃ vr, RepL G r vr ∧ ∀ w, (Instr.index t vx vi).run P w = .ok vr w := by
  unfold dIndex at h
  obtain ⟨d, hd, h⟩ := Option.bind_eq_some_iff.1 h
  obtain ⟨u, hu, _, _, _, hst, _⟩ := (hT t d hd).und
  split at h
  · rename_i hs
    obtain rfl := hst hs
    split at h
    · cases rx
      cases ri
      split at h
      · rename_i hi
        cases h
        exact ⟨_, .int _ _, fun w => by rw [run_index_string (P := P) (w := w) t _ _ _ hu, dif_pos hi]⟩
      · cases h
    · cases h
  · cases h
end
end Go.Den
namespace Go.Den
open Go.RowKit
theorem WR.born_grow {w0 : World} {A : Nat → Prop} {S : St} {G : Ghost} {w : World} {t : Nat} {x : Nat × TypeId × Nat} (h : WR w0 A ((S.spend (some t)).born x) G w) : WR w0 A (S.grow t x) G w := by
  have e1 := (S.spend_len (some t)).1
  refine h.sub (if t ∈ S.young then S.toks.length :: S.young else S.young) (fun u hu => ?_)
  show u ∈ (S.spend (some t)).toks.length :: (S.spend (some t)).young
  rw [e1, S.spend_young]
  split at hu
  · exact hu
  · exact List.mem_cons_of_mem _ hu
section
variable {P : Program} {T : Tab} {G : Ghost} {w0 : World} {A : Nat → Prop} {S : St} {w : World}
def AL.cells : AL → Option (Nat × List AL)
  | .sl _ m ys => some (m, ys)
  | _ => none
def dAppend (T : Tab) (t : TypeId) (s x : AL) (S : St) : Option (AL × St) :=
  (T.desc t).bind fun d => d.elem.bind fun e => (T.desc e).bind fun de => x.cells.bind fun mys =>
    if mys.1 = 0 ∨ de.size = 0 ∨ mys.2.length ≠ mys.1 * de.size ∨ de.zero.length ≠ de.size then none else
    match s with
    | .nilsl => if mys.1 ≤ maxLen ∧ mys.1 * de.bytes ≤ 140737488355328 then some (.sl (some S.toks.length) mys.1 mys.2, S.born (mys.2.length, e, de.size)) else none
    | .sl (some tk) len xs =>
      if S.tok tk = some (xs.length, e, de.size) ∧ xs.length = len * de.size ∧ len + mys.1 ≤ maxLen ∧ (len + mys.1) * de.bytes ≤ 140737488355328 then
        some (.sl (some S.toks.length) (len + mys.1) (xs ++ mys.2), S.grow tk ((xs ++ mys.2).length, e, de.size)) else none
    | _ => none
theorem zeroCells_size (z : Array Value) (n : Nat) : (Builtin.zeroCells z n).size = n * z.size := size_zeroCells z n
theorem splice_get (cur : Array Value) (n : Nat) (vs : List Value) (h : n + vs.length ≤ cur.size) (i : Nat) :
    ((cur.toList.take n ++ vs ++ cur.toList.drop (n + vs.length)).toArray)[i]? = if i < n then cur[i]? else if i < n + vs.length then vs[i - n]? else cur[i]? := by
  have hl : cur.toList.length = cur.size := Array.length_toList
  rw [List.getElem?_toArray, List.getElem?_append, List.getElem?_append, List.length_append, List.length_take, hl, show min n cur.size = n by omega]
  by_cases h1 : i < n
  · rw [if_pos (by omega), if_pos h1, if_pos h1, List.getElem?_take, if_pos h1]
    simp
  · rw [if_neg h1, if_neg h1]
    by_cases h2 : i < n + vs.length
    · rw [if_pos h2, if_pos h2]
    · rw [if_neg h2, if_neg h2, List.getElem?_drop]
      simp only [Array.getElem?_toList]
      congr 1
      omega
theorem splice_size (cur : Array Value) (n : Nat) (vs : List Value) (h : n + vs.length ≤ cur.size) : ((cur.toList.take n ++ vs ++ cur.toList.drop (n + vs.length)).toArray).size = cur.size := by
  have hl : cur.toList.length = cur.size := Array.length_toList
  rw [List.size_toArray, List.length_append, List.length_append, List.length_take, List.length_drop, hl]
  omega
theorem newRow_sl {H : Ghost} {t b cap len : Nat} {xs : List AL} {vs : List Value} (hc : len ≤ cap) (hh : H.hdr t = some (b, cap)) (hp : ∀ i, i < vs.length → H.prot b i = vs[i]?) (hr : RepC H xs vs) :
    RepL H (.sl (some t) len xs) (.slice (some ⟨b, 0, none⟩) len cap) := by
  refine .sl (fun i => vs[i]?.getD default) hc (fun i hi => ?_) (fun i x hx => ?_) (fun u e => ⟨rfl, by cases e; exact hh⟩)
  · have hl : i < vs.length := by rw [← hr.1]; exact hi
    rw [Nat.zero_add, hp i hl, List.getElem?_eq_getElem hl]
    rfl
  · have hi := (List.getElem?_eq_some_iff.1 hx).1
    have hl : i < vs.length := by rw [← hr.1]; exact hi
    have := hr.2 i x vs[i] hx (List.getElem?_eq_getElem hl)
    rw [List.getElem?_eq_getElem hl]
    exact this
theorem dAppend_ok (hT : T.Ok P) (hW : WR w0 A S G w) {t ty : TypeId} {s x r : AL} {S' : St} (h : dAppend T t s x S = some (r, S')) {vs vx : Value} (rs : RepL G s vs) (rx : RepL G x vx) :
    ∃ H vr w', G.Le H ∧ RepL H r vr ∧ WR w0 A S' H w' ∧ (Builtin.append_ #[t, t] ty #[vs, vx]).run P w = .ok vr w' := by
  unfold dAppend at h
  replace h := Option.bind_eq_some_iff.1 h
  obtain ⟨d, hd, h⟩ := h
  replace h := Option.bind_eq_some_iff.1 h
  obtain ⟨e, he, h⟩ := h
  replace h := Option.bind_eq_some_iff.1 h
  obtain ⟨de, hde, h⟩ := h
  replace h := Option.bind_eq_some_iff.1 h
  obtain ⟨⟨m, ys⟩, hx, h⟩ := h
  obtain ⟨u, hu, _, hel, _⟩ := (hT t d hd).und
  obtain rfl := hel e he
  obtain ⟨ie, z, hie, hs, hby, hz, hzr⟩ := (hT e de hde).info
  split at h
  · cases h
  · rename_i hno
    simp only [not_or] at hno
    obtain ⟨hm0, hs0, hyl, hzl⟩ := hno
    have hyl : ys.length = m * de.size := by simpa using hyl
    have hzl : de.zero.length = de.size := by simpa using hzl
    have hzc : z.cells.size = de.size := by rw [← hzl, (hzr G).1]; simp
    -- the new cells
    cases rx with
    | @sl tx lx cx bx ox xs' f hc hp hxx ht =>
      cases hx
      obtain ⟨news, hnews⟩ : ∃ news : List Value, news = (List.range ys.length).map f := ⟨_, rfl⟩
      have hrn : RepC G ys news := by rw [hnews]; exact RepC.of_fun f hxx
      have hnl : news.length = ys.length := hrn.1.symm
      have hone : ∀ v ∈ news, v.oneCell' = true := hrn.oneCell
      have hcell : ∀ j v, news[j]? = some v → w.cell? ((⟨bx, ox, none⟩ : Addr).add j) = some v := by
        intro j v hv
        have hj : j < ys.length := by rw [← hnl]; exact (List.getElem?_eq_some_iff.1 hv).1
        rw [Addr.add_mid]
        refine hW.prot _ _ _ ?_
        rw [hp j hj]
        rw [hnews, List.getElem?_map, List.getElem?_range hj] at hv
        exact hv
      have hmp : 0 < m := Nat.pos_of_ne_zero hm0
      have hnm : news.length = m * ie.size := by rw [hnl, hyl, hs]
      have hWd : WR w0 A S G w.drew := hW.drew
      split at h
      · -- nil
        split at h
        · rename_i hlim
          replace hlim : m ≤ maxLen ∧ m * de.bytes ≤ 140737488355328 := hlim
          cases h
          cases rs
          have hm63 : (m : Int) ≤ 9223372036854775807 := by have := hlim.1; unfold maxLen at this; omega
          have hrun := run_append_nil (P := P) w t ty e ie z hu hie hz ⟨bx, ox, none⟩ m cx news hnm hcell hmp hm63 (by rw [hby]; omega)
          have hge := grownCap_ge w m 0 e
          obtain ⟨H, hle, hh, hpr, hw⟩ := hWd.newRow e de.size (grownCap w m 0 e) ys news (Builtin.zeroCells z.cells (grownCap w m 0 e - m)).toList hrn (by
            simp only [List.length_append, Array.length_toList, zeroCells_size, hzc, hnl, hyl]
            rw [← Nat.add_mul]
            congr 1
            omega) (grownCap_le_maxLen w m 0 e hlim.1)
          refine ⟨H, _, _, hle, newRow_sl hge hh hpr (hrn.mono hle), hw, ?_⟩
          rw [hrun]
          congr 3
          apply Array.ext'
          simp
        · cases h
      · -- a row of one's own
        rename_i tk len xs
        split at h
        · rename_i hcond
          replace hcond : S.tok tk = some (xs.length, e, de.size) ∧ xs.length = len * de.size ∧ len + m ≤ maxLen ∧ (len + m) * de.bytes ≤ 140737488355328 := hcond
          obtain ⟨htok, hxl, hml, hbl⟩ := hcond
          cases h
          cases rs with
          | @sl _ _ cap b o _ g hcap hpo hxo hto =>
            obtain ⟨rfl, hhdr⟩ := hto tk rfl
            obtain ⟨b1, cap1, cur, k1, k2, k3, k4, k5, k6, k7, k8⟩ := hW.tok tk _ _ _ htok
            rw [hhdr] at k1
            cases k1
            obtain ⟨olds, holds⟩ : ∃ olds : List Value, olds = (List.range xs.length).map g := ⟨_, rfl⟩
            have hro : RepC G xs olds := by rw [holds]; exact RepC.of_fun g hxo
            have hol : olds.length = len * ie.size := by rw [← hro.1, hxl, hs]
            have hcello : ∀ j v, olds[j]? = some v → w.cell? ⟨b, j, none⟩ = some v := by
              intro j v hv
              have hj : j < xs.length := by rw [hro.1]; exact (List.getElem?_eq_some_iff.1 hv).1
              have := hpo j hj
              rw [Nat.zero_add] at this
              refine hW.prot _ _ _ ?_
              rw [this]
              rw [holds, List.getElem?_map, List.getElem?_range hj] at hv
              exact hv
            by_cases hroom : len + m ≤ cap
            · have hsz : (len + m) * de.size ≤ cap * de.size := Nat.mul_le_mul_right _ hroom
              rw [Nat.add_mul] at hsz
              have hrun := run_append_room (P := P) w t ty e ie hu hie b len cap cur k3 ⟨bx, ox, none⟩ m cx news hnm hcell hone hroom (by rw [hs, hnl, hyl, k4]; exact hsz)
              rw [hs] at hrun
              have hcz : len * de.size + news.length ≤ cur.size := by rw [hnl, hyl, k4]; exact hsz
              obtain ⟨H, hle, hh, hpr, hw⟩ := hW.pushRow htok hhdr ys news hrn (w' := w.setRow b (cur.toList.take (len * de.size) ++ news ++ cur.toList.drop (len * de.size + news.length)).toArray) k3 (setRow_heap w b cur _ e (0, 0) k3) (fun k hk => setRow_other w b k _ hk) (by simp [World.setRow]) (below_setRow (Below.refl b w) (Nat.le_refl b) _) (fun i hi => by
                  rw [splice_get _ _ _ hcz, if_pos (by rw [← hxl]; exact hi)]) (fun i hi => by
                  rw [splice_get _ _ _ hcz, hxl, if_neg (by omega), if_pos (by omega)]
                  congr 1
                  omega) (splice_size _ _ _ hcz) (by rw [hnl, hxl, hyl]; exact hsz)
              refine ⟨H, _, _, hle, newRow_sl (vs := olds ++ news) hroom hh (fun i hi => ?_) ((hro.append hrn).mono hle), by rw [List.length_append]; exact hw, hrun⟩
              rw [List.length_append] at hi
              rcases Nat.lt_or_ge i olds.length with hlt | hge
              · rw [List.getElem?_append_left hlt]
                have hj : i < xs.length := by rw [hro.1]; exact hlt
                have h1 := hpo i hj
                rw [Nat.zero_add] at h1
                rw [hle.prot _ _ _ h1, holds, List.getElem?_map, List.getElem?_range hj]
                rfl
              · rw [List.getElem?_append_right hge]
                have := hpr (i - olds.length) (by omega)
                rw [← this, hro.1]
                congr 1
                omega
            · have hm63 : ((len + m : Nat) : Int) ≤ 9223372036854775807 := by unfold maxLen at hml; omega
              have hrun := run_append_grow (P := P) w t ty e ie z hu hie hz ⟨b, 0, none⟩ len cap olds hol (fun j v hv => by rw [Addr.add_mid, Nat.zero_add]; exact hcello j v hv) ⟨bx, ox, none⟩ m cx news hnm hcell (by omega) hm63 (by rw [hby]; exact growslice_fits (by omega) hbl)
              have hge := grownCap_ge w (len + m) cap e
              have hWs : WR w0 A (S.spend (some tk)) G w.drew := hWd.spend (some tk)
              obtain ⟨H, hle, hh, hpr, hw⟩ := hWs.newRow e de.size (grownCap w (len + m) cap e) (xs ++ ys) (olds ++ news) (Builtin.zeroCells z.cells (grownCap w (len + m) cap e - (len + m))).toList (hro.append hrn) (by
                simp only [List.length_append, Array.length_toList, zeroCells_size, hzc, hnl, hyl, ← hro.1, hxl]
                rw [← Nat.add_mul, ← Nat.add_mul]
                congr 1
                omega) (grownCap_le_maxLen w (len + m) cap e hml)
              rw [(S.spend_len (some tk)).1] at hh
              refine ⟨H, _, _, hle, newRow_sl hge hh hpr ((hro.append hrn).mono hle), hw.born_grow, ?_⟩
              rw [hrun]
              congr 3
              apply Array.ext'
              simp
        · cases h
      · cases h
    | _ => cases hx
end
end Go.Den
namespace Go.Den
open Go.RowKit
section
variable {P : Program} {T : Tab} {G : Ghost} {w0 : World} {A : Nat → Prop} {S : St} {w : World}
def dBuildSlice (T : Tab) (t : TypeId) (len : Nat) (parts : List (Nat × AV)) (S : St) : Option (AL × St) :=
  (T.desc t).bind fun d => d.elem.bind fun e => (T.desc e).bind fun de =>
    if len = 0 then (if parts = [] then some (.sl (some S.toks.length) 0 [], S.born (0, e, de.size)) else none)
    else if de.size = 0 ∨ de.zero.length ≠ de.size ∨ len * de.size > 2 ^ 24 then none else
      (dFill (fun i => some (i * de.size, de.size)) ((List.range (len * de.size)).map fun i => de.zero.getD (i % de.size) .undef) parts).bind fun xs =>
        if xs.length = len * de.size then some (.sl (some S.toks.length) len xs, S.born (xs.length, e, de.size)) else none
theorem dBuildSlice_ok (hT : T.Ok P) (hW : WR w0 A S G w) {t : TypeId} {len : Nat} {parts : List (Nat × AV)} {r : AL} {S' : St} (h : dBuildSlice T t len parts S = some (r, S')) {ps : Array (Nat × Value)} (hp : RepP G parts ps.toList) :
    ∃ H vr w', G.Le H ∧ RepL H r vr ∧ WR w0 A S' H w' ∧ (Instr.buildSlice t len ps).run P w = .ok vr w' := by
  unfold dBuildSlice at h
  replace h := Option.bind_eq_some_iff.1 h
  obtain ⟨d, hd, h⟩ := h
  replace h := Option.bind_eq_some_iff.1 h
  obtain ⟨e, he, h⟩ := h
  replace h := Option.bind_eq_some_iff.1 h
  obtain ⟨de, hde, h⟩ := h
  obtain ⟨u, hu, _, hel, _⟩ := (hT t d hd).und
  obtain rfl := hel e he
  obtain ⟨ie, z, hie, hs, hby, hz, hzr⟩ := (hT e de hde).info
  split at h
  · rename_i hl
    subst hl
    split at h
    · rename_i hpn
      subst hpn
      cases h
      have hpe : ps.toList = [] := by cases hps : ps.toList with | nil => rfl | cons a b => rw [hps] at hp; cases hp
      obtain ⟨H, hle, hh, hpr, hw⟩ := hW.newRow e de.size 0 [] [] [] ⟨rfl, fun i x v hx _ => by simp at hx⟩ (by simp) (by unfold maxLen; omega)
      refine ⟨H, _, _, hle, newRow_sl (vs := []) (Nat.le_refl 0) hh (fun i hi => by simp at hi) ⟨rfl, fun i x v hx _ => by simp at hx⟩, hw, ?_⟩
      have hps : ps = #[] := by apply Array.ext'; simpa using hpe
      subst hps
      simp [Instr.buildSlice, run_underlying hu, sizeOf, typeInfo, hie, Instr.fill, newRow]
      congr 2
      apply Array.ext'
      simp
    · cases h
  · rename_i hl
    split at h
    · cases h
    · rename_i hno
      simp only [not_or] at hno
      obtain ⟨hs0, hzl, hbig⟩ := hno
      replace hzl : de.zero.length = de.size := by simpa using hzl
      have hzc : z.cells.size = de.size := by rw [← hzl, (hzr G).1]; simp
      replace h := Option.bind_eq_some_iff.1 h
      obtain ⟨xs, hxs, h⟩ := h
      split at h
      · rename_i hxl
        cases h
        have hinit : RepC G ((List.range (len * de.size)).map fun i => de.zero.getD (i % de.size) .undef) ((Array.range (len * ie.size)).map (z.cells[· % z.cells.size]!)).toList := by
          refine ⟨by simp [hs], fun i x v hx hv => ?_⟩
          have hi : i < len * de.size := by have := (List.getElem?_eq_some_iff.1 hx).1; simpa using this
          rw [List.getElem?_map, List.getElem?_range hi] at hx
          cases hx
          have hm : i % de.size < de.size := Nat.mod_lt _ (Nat.pos_of_ne_zero hs0)
          have hv' : z.cells[i % z.cells.size]! = v := by
            simpa [hs, hi] using hv
          rw [hzc] at hv'
          have h1 : de.zero[i % de.size]? = some (de.zero.getD (i % de.size) .undef) := by
            rw [List.getD_eq_getElem?_getD, List.getElem?_eq_getElem (by omega)]
            rfl
          refine (hzr G).2 _ _ _ h1 ?_
          rw [Array.getElem?_toList, Array.getElem?_eq_getElem (by omega), ← hv', getElem!_pos z.cells _ (by omega)]
        obtain ⟨us, h1, h2⟩ := dFill_ok (G := G) _ parts ps.toList _ _ xs hp hinit hxs
        have hus : us.size = len * de.size := by rw [← hxl, h2.1]; simp
        obtain ⟨H, hle, hh, hpr, hw⟩ := hW.newRow e de.size len xs us.toList [] h2 (by simp [hus]) (by
          have : len * 1 ≤ len * de.size := Nat.mul_le_mul_left _ (Nat.pos_of_ne_zero hs0)
          unfold maxLen
          omega)
        refine ⟨H, _, _, hle, newRow_sl (vs := us.toList) (Nat.le_refl len) hh hpr (h2.mono hle), hw, ?_⟩
        rw [run_buildSlice w t e len ps us ie z hu hie hz (by rw [hs]; exact hbig) (by rw [hs]; exact fun hz' => by rcases Nat.mul_eq_zero.1 hz' with h | h <;> omega) (by rw [← h1, hs])]
        simp
      · cases h
def dLen (T : Tab) (t : TypeId) (x : AL) : Option AL :=
  (T.desc t).bind fun d => match x with
    | .str s => if d.isStr = true then some (.int .i64 s.size) else none
    | .sl _ len _ => d.elem.map fun _ => .int .i64 len
    | .nilsl => d.elem.map fun _ => .int .i64 0
    | _ => none
theorem dLen_ok (hT : T.Ok P) {t ty : TypeId} {x r : AL} (h : dLen T t x = some r) {vx : Value} (rx : RepL G x vx) : ∃ vr, RepL G r vr ∧ ∀ w, (Builtin.len_ #[t] ty #[vx]).run P w = .ok vr w := by
  unfold dLen at h
  replace h := Option.bind_eq_some_iff.1 h
  obtain ⟨d, hd, h⟩ := h
  obtain ⟨u, hu, _, hel, _, hst, _⟩ := (hT t d hd).und
  cases rx with
  | str s =>
    simp only [] at h
    split at h
    · rename_i hs
      obtain rfl := hst hs
      cases h
      exact ⟨_, .int _ _, fun w => run_len_string (P := P) (w := w) t ty s hu⟩
    · cases h
  | sl f hc hp hx ht =>
    obtain ⟨e, he, hr⟩ := Option.map_eq_some_iff.1 h
    cases hr
    obtain rfl := hel e he
    exact ⟨_, .int _ _, fun w => run_len_slice (P := P) (w := w) t ty _ _ _ (by rw [elem_eq hu]; exact hu)⟩
  | nilsl =>
    obtain ⟨e, he, hr⟩ := Option.map_eq_some_iff.1 h
    cases hr
    obtain rfl := hel e he
    exact ⟨_, .int _ _, fun w => run_len_slice (P := P) (w := w) t ty _ _ _ (by rw [elem_eq hu]; exact hu)⟩
  | _ => cases h
def dSliceStr (T : Tab) (t : TypeId) (s : ByteArray) (lo hi : Int) : Option AL :=
  (T.desc t).bind fun d => if d.isStr = true ∧ 0 ≤ lo ∧ lo ≤ hi ∧ hi ≤ s.size then some (.str (s.extract lo.toNat hi.toNat)) else none
def dSliceRow (T : Tab) (t : TypeId) (len : Nat) (xs : List AL) (lo hi : Int) : Option AL :=
  (T.desc t).bind fun d => d.elem.bind fun e => (T.desc e).bind fun de =>
    if 0 ≤ lo ∧ lo ≤ hi ∧ hi ≤ len ∧ xs.length = len * de.size then some (.sl none (hi.toNat - lo.toNat) ((xs.take (hi.toNat * de.size)).drop (lo.toNat * de.size))) else none
def dExtract (x : AV) (i : Nat) : Option AV := match x with | .tup xs => xs[i]? | _ => none
theorem dExtract_ok {x r : AV} {i : Nat} (h : dExtract x i = some r) {vx : Value} (rx : RepV G x vx) : ∃ vr, RepV G r vr ∧ ∀ w, (Instr.extract vx i).run P w = .ok vr w := by
  unfold dExtract at h
  cases rx with
  | tup f hx =>
    have hi := (List.getElem?_eq_some_iff.1 h).1
    exact ⟨f i, hx i r h, fun w => by simp [Instr.extract, hi]⟩
  | _ => cases h
def dUn (op : UnOp) (x : AL) : Option AL :=
  match op, x with
  | .neg, .int k n => some (.int k (k.wrap (0 - n)))
  | .not, .bool b => some (.bool (!b))
  | _, _ => none
theorem dUn_ok {op : UnOp} {x r : AL} (h : dUn op x = some r) {vx : Value} (rx : RepL G x vx) : ∃ vr, RepL G r vr ∧ ∀ w, (Op.unary op vx).run P w = .ok vr w := by
  unfold dUn at h
  split at h
  · cases rx; cases h; exact ⟨_, .int _ _, fun w => by simp [Op.unary, Op.intArith]⟩
  · cases rx; cases h; exact ⟨_, .bool _, fun w => by simp [Op.unary]⟩
  · cases h
end
end Go.Den
namespace Go.Den
open Go.RowKit
section
variable {P : Program} {T : Tab} {G : Ghost} {w : World}
def dSlice (T : Tab) (t : TypeId) (x : AL) (lo hi : Option AL) : Option AL :=
  match x, lo, hi with
  | .str s, some (.int _ l), some (.int _ h) => dSliceStr T t s l h
  | .str s, none, some (.int _ h) => dSliceStr T t s 0 h
  | .str s, some (.int _ l), none => dSliceStr T t s l s.size
  | .sl _ len xs, some (.int _ l), some (.int _ h) => dSliceRow T t len xs l h
  | .sl _ len xs, none, some (.int _ h) => dSliceRow T t len xs 0 h
  | .sl _ len xs, some (.int _ l), none => dSliceRow T t len xs l len
  | _, _, _ => none
inductive RepO (G : Ghost) : Option AL → Option Value → Prop where
  | none : RepO G none none
  | some {x v} (h : RepL G x v) : RepO G (some x) (some v)
theorem row_piece {de : D} {len cap b o : Nat} {xs : List AL} (f : Nat → Value) (hc : len ≤ cap)
    (hp : ∀ i, i < xs.length → G.prot b (o + i) = some (f i)) (hx : ∀ (i : Nat) x, xs[i]? = some x → RepL G x (f i)) (hl : xs.length = len * de.size) (l h : Nat) (h1 : l ≤ h) (h2 : h ≤ len) :
    RepL G (.sl none (h - l) ((xs.take (h * de.size)).drop (l * de.size))) (sliced (some ⟨b, o, none⟩) l h cap de.size) := by
  unfold sliced
  have hlh : l * de.size ≤ h * de.size := Nat.mul_le_mul_right _ h1
  have hhl : h * de.size ≤ len * de.size := Nat.mul_le_mul_right _ h2
  have hlen : ((xs.take (h * de.size)).drop (l * de.size)).length = h * de.size - l * de.size := by
    rw [List.length_drop, List.length_take, hl]
    omega
  by_cases hcl : cap = l
  · rw [if_pos hcl]
    have : h = l := by omega
    subst this
    refine .sl f (by omega) (fun i hi => ?_) (fun i x hx' => ?_) (fun _ e => by cases e)
    · rw [hlen] at hi; omega
    · have := (List.getElem?_eq_some_iff.1 hx').1
      rw [hlen] at this
      omega
  · rw [if_neg hcl]
    show RepL G _ (.slice (some ((⟨b, o, none⟩ : Addr).add (l * de.size))) (h - l) (cap - l))
    rw [Addr.add_mid]
    refine .sl (fun i => f (l * de.size + i)) (by omega) (fun i hi => ?_) (fun i x hx' => ?_) (fun _ e => by cases e)
    · rw [hlen] at hi
      rw [Nat.add_assoc]
      exact hp _ (by omega)
    · have hi := (List.getElem?_eq_some_iff.1 hx').1
      rw [hlen] at hi
      rw [List.getElem?_drop, List.getElem?_take, if_pos (by omega)] at hx'
      exact hx _ x hx'
theorem sliceRow_ok (hT : T.Ok P) {t : TypeId} {tok : Option Nat} {len : Nat} {xs : List AL} {r : AL} {l h : Int} (hh : dSliceRow T t len xs l h = some r) {vx : Value} (rx : RepL G (.sl tok len xs) vx) :
    ∃ vr, RepL G r vr ∧ ∀ w, (∀ kl kh, (Instr.sliceAt t vx (some (.int kl l)) (some (.int kh h)) none).run P w = .ok vr w) ∧ (l = 0 → ∀ kh, (Instr.sliceAt t vx none (some (.int kh h)) none).run P w = .ok vr w) ∧ (h = len → ∀ kl, (Instr.sliceAt t vx (some (.int kl l)) none none).run P w = .ok vr w) := by
  unfold dSliceRow at hh
  obtain ⟨d, hd, hh⟩ := Option.bind_eq_some_iff.1 hh
  obtain ⟨e, he, hh⟩ := Option.bind_eq_some_iff.1 hh
  obtain ⟨de, hde, hh⟩ := Option.bind_eq_some_iff.1 hh
  obtain ⟨u, hu, _, hel, _⟩ := (hT t d hd).und
  obtain rfl := hel e he
  obtain ⟨ie, z, hie, hs, _⟩ := (hT e de hde).info
  split at hh
  · rename_i hb
    obtain ⟨h0, h1, h2, hl⟩ := hb
    cases hh
    cases rx with
    | @sl _ _ cap b o _ f hc hp hx ht =>
      have ht' : P.underlying t = some (.slice (P.elem t)) := by rw [elem_eq hu]; exact hu
      have hsz : ∀ w, (sizeOf (P.elem t)).run P w = .ok de.size w := by intro w; rw [elem_eq hu]; simp [sizeOf, typeInfo, hie, hs]
      refine ⟨_, row_piece f hc hp hx hl l.toNat h.toNat (by omega) (by omega), fun w => ⟨fun kl kh => ?_, fun hl0 kh => ?_, fun hhl kl => ?_⟩⟩
      · rw [run_sliceAt_slice (P := P) (w := w) t _ _ _ _ ht', run_slice_lh (P := P) (w := w) t _ _ _ ht' kl kh l h h0 h1 (by omega), hsz]
        rfl
      · subst hl0
        rw [run_sliceAt_slice (P := P) (w := w) t _ _ _ _ ht', run_slice_h (P := P) (w := w) t _ _ _ ht' kh h (by omega) (by omega), hsz]
        rfl
      · subst hhl
        rw [run_sliceAt_slice (P := P) (w := w) t _ _ _ _ ht', run_slice_l (P := P) (w := w) t _ _ _ ht' kl l h0 (by omega), hsz]
        rfl
  · cases hh
theorem sliceStr_ok (hT : T.Ok P) {t : TypeId} {s : ByteArray} {r : AL} {l h : Int} (hh : dSliceStr T t s l h = some r) :
    ∃ vr, RepL G r vr ∧ ∀ w, (∀ kl kh, (Instr.sliceAt t (.string s) (some (.int kl l)) (some (.int kh h)) none).run P w = .ok vr w) ∧ (l = 0 → ∀ kh, (Instr.sliceAt t (.string s) none (some (.int kh h)) none).run P w = .ok vr w) ∧ (h = s.size → ∀ kl, (Instr.sliceAt t (.string s) (some (.int kl l)) none none).run P w = .ok vr w) := by
  unfold dSliceStr at hh
  obtain ⟨d, hd, hh⟩ := Option.bind_eq_some_iff.1 hh
  obtain ⟨u, hu, _, _, _, hst, _⟩ := (hT t d hd).und
  split at hh
  · rename_i hb
    obtain ⟨hs, h0, h1, h2⟩ := hb
    obtain rfl := hst hs
    cases hh
    refine ⟨_, .str _, fun w => ⟨fun kl kh => ?_, fun hl0 kh => ?_, fun hhl kl => ?_⟩⟩
    · rw [run_sliceAt_string (P := P) (w := w) t _ _ _ _ hu]
      simp [Instr.slice, run_underlying hu, Instr.sliceBounds, run_sliceBound, *, (by omega : 0 ≤ h), Int.toNat_of_nonneg (show 0 ≤ h by omega)]
    · subst hl0
      rw [run_sliceAt_string (P := P) (w := w) t _ _ _ _ hu, run_slice_string_h (P := P) (w := w) t s hu kh h (by omega) h2]
      rfl
    · subst hhl
      rw [run_sliceAt_string (P := P) (w := w) t _ _ _ _ hu, run_slice_string_l (P := P) (w := w) t s hu kl l h0 (by omega)]
      simp
  · cases hh
theorem dSlice_ok (hT : T.Ok P) {t : TypeId} {x r : AL} {lo hi : Option AL} (h : dSlice T t x lo hi = some r) {vx : Value} (rx : RepL G x vx) {vl vh : Option Value} (rl : RepO G lo vl) (rh : RepO G hi vh) :
    ∃ vr, RepL G r vr ∧ ∀ w, (Instr.sliceAt t vx vl vh none).run P w = .ok vr w := by
  unfold dSlice at h
  split at h
  · cases rx; cases rl with | some rl => cases rl; cases rh with | some rh => cases rh; obtain ⟨vr, h1, h2⟩ := sliceStr_ok (G := G) hT h; exact ⟨vr, h1, fun w => (h2 w).1 _ _⟩
  · cases rx; cases rl; cases rh with | some rh => cases rh; obtain ⟨vr, h1, h2⟩ := sliceStr_ok (G := G) hT h; exact ⟨vr, h1, fun w => (h2 w).2.1 rfl _⟩
  · cases rx; cases rl with | some rl => cases rl; cases rh; obtain ⟨vr, h1, h2⟩ := sliceStr_ok (G := G) hT h; exact ⟨vr, h1, fun w => (h2 w).2.2 rfl _⟩
  · cases rl with | some rl => cases rl; cases rh with | some rh => cases rh; obtain ⟨vr, h1, h2⟩ := sliceRow_ok hT h rx; exact ⟨vr, h1, fun w => (h2 w).1 _ _⟩
  · cases rl; cases rh with | some rh => cases rh; obtain ⟨vr, h1, h2⟩ := sliceRow_ok hT h rx; exact ⟨vr, h1, fun w => (h2 w).2.1 rfl _⟩
  · cases rl with | some rl => cases rl; cases rh; obtain ⟨vr, h1, h2⟩ := sliceRow_ok hT h rx; exact ⟨vr, h1, fun w => (h2 w).2.2 rfl _⟩
  · cases h
end
end Go.Den
namespace Go.Den
open Go.RowKit
def nums : List AL → Option (List Int)
  | [] => some []
  | .int .u8 n :: r => (nums r).map fun l => n :: l
  | _ => none
def dConv (T : Tab) (s d : TypeId) (x : AL) : Option AL :=
  match x with
  | .int _ n => (T.desc s).bind fun _ => (T.desc d).bind fun dd => dd.ik.map fun k => .int k (k.wrap n)
  | .sl _ len xs => (T.desc s).bind fun ds => ds.elem.bind fun e => (T.desc e).bind fun de => (T.desc d).bind fun dd =>
      if de.ik = some .u8 ∧ dd.isStr = true ∧ xs.length = len then (nums xs).map fun l => .str (strOfNums l) else none
  | _ => none
def dEqNil (T : Tab) (op : BinOp) (t : TypeId) (x y : AL) : Option AL :=
  (T.desc t).bind fun d => d.elem.bind fun _ => match op, x, y with
    | .eql, .nilsl, .nilsl => some (.bool true)
    | .eql, .sl .., .nilsl => some (.bool false)
    | .neq, .nilsl, .nilsl => some (.bool false)
    | .neq, .sl .., .nilsl => some (.bool true)
    | _, _, _ => none
section
variable {P : Program} {T : Tab} {G : Ghost} {w0 : World} {A : Nat → Prop} {S : St} {w : World}
theorem nums_ok : ∀ (xs : List AL) (l : List Int), nums xs = some l → l.length = xs.length ∧ ∀ (i : Nat), i < xs.length → xs[i]? = some (.int .u8 (l.getD i 0))
  | [], l, h => by cases h; exact ⟨rfl, fun i hi => by simp at hi⟩
  | x :: r, l, h => by
    unfold nums at h
    split at h
    · rename_i h0
      cases h0
    · rename_i n r' h0
      cases h0
      obtain ⟨l', hl, he⟩ := Option.map_eq_some_iff.1 h
      subst he
      obtain ⟨h1, h2⟩ := nums_ok _ l' hl
      refine ⟨by simp [h1], fun i hi => ?_⟩
      cases i with
      | zero => rfl
      | succ i => simpa using h2 i (by simpa using hi)
    · cases h
theorem dConv_ok (hT : T.Ok P) (hW : WR w0 A S G w) {s d : TypeId} {x r : AL} (h : dConv T s d x = some r) {vx : Value} (rx : RepL G x vx) : ∃ vr, RepL G r vr ∧ (convert s d vx).run P w = .ok vr w := by
  unfold dConv at h
  split at h
  · replace h := Option.bind_eq_some_iff.1 h
    obtain ⟨ds, hs, h⟩ := h
    replace h := Option.bind_eq_some_iff.1 h
    obtain ⟨dd, hd, h⟩ := h
    obtain ⟨k, hk, he⟩ := Option.map_eq_some_iff.1 h
    subst he
    cases rx
    obtain ⟨u, hu, _⟩ := (hT s ds hs).und
    obtain ⟨v, hv, _, _, _, _, hik⟩ := (hT d dd hd).und
    obtain rfl := hik k hk
    exact ⟨_, .int _ _, by cases u <;> simp [convert, run_underlying hu, run_underlying hv, Conv.intToInt]⟩
  · rename_i tok len xs
    replace h := Option.bind_eq_some_iff.1 h
    obtain ⟨ds, hs, h⟩ := h
    replace h := Option.bind_eq_some_iff.1 h
    obtain ⟨e, he, h⟩ := h
    replace h := Option.bind_eq_some_iff.1 h
    obtain ⟨de, hde, h⟩ := h
    replace h := Option.bind_eq_some_iff.1 h
    obtain ⟨dd, hd, h⟩ := h
    split at h
    · rename_i hc
      obtain ⟨h1, h2, h3⟩ := hc
      obtain ⟨l, hl, hr⟩ := Option.map_eq_some_iff.1 h
      subst hr
      obtain ⟨u, hu, _, hel, _⟩ := (hT s ds hs).und
      obtain rfl := hel e he
      obtain ⟨ue, hue, _, _, _, _, hik⟩ := (hT e de hde).und
      obtain rfl := hik _ h1
      obtain ⟨v, hv, _, _, _, hst, _⟩ := (hT d dd hd).und
      obtain rfl := hst h2
      obtain ⟨hl1, hl2⟩ := nums_ok xs l hl
      cases rx with
      | @sl _ _ cap b o _ f hcp hp hx ht =>
        refine ⟨_, .str _, run_convert_bytes_arg w s e hu hue b o len cap l (by omega) (fun i hi => ?_) d hv⟩
        have hx1 := hx i _ (hl2 i (by omega))
        have hp1 := hW.prot _ _ _ (hp i (by omega))
        rw [hp1]
        generalize f i = q at hx1
        cases hx1
        rfl
    · cases h
  · cases h
theorem dEqNil_ok (hT : T.Ok P) {op : BinOp} {t : TypeId} {x y r : AL} {vx vy : Value} (ox oy : Operand) (h : dEqNil T op t x y = some r) (rx : RepL G x vx) (ry : RepL G y vy) :
    ∃ vr, RepL G r vr ∧ ∀ w, (do eqGuard op t ox oy vx vy; binOp op t vx vy : Sem Value).run P w = .ok vr w := by
  unfold dEqNil at h
  replace h := Option.bind_eq_some_iff.1 h
  obtain ⟨d, hd, h⟩ := h
  replace h := Option.bind_eq_some_iff.1 h
  obtain ⟨e, he, h⟩ := h
  obtain ⟨u, hu, _, hel, _⟩ := (hT t d hd).und
  obtain rfl := hel e he
  have key : ∀ (a : Option Addr) (n c : Nat) (w : World), (Op.equal t (.slice a n c) (.slice none 0 0)).run P w = .ok (a.isNone) w := by
    intro a n c w
    show (Op.equalIn (9999 + 1) t _ _).run P w = _
    rw [Op.equalIn, Sem.run_bind, run_underlying hu]
    cases a <;> rfl
  split at h
  · cases h
    cases rx
    cases ry
    exact ⟨_, .bool _, fun w => by rw [Sem.run_bind]; simp only [eqGuard, binOp, Sem.run_bind, key]; rfl⟩
  · cases h
    cases rx
    cases ry
    exact ⟨_, .bool _, fun w => by rw [Sem.run_bind]; simp only [eqGuard, binOp, Sem.run_bind, key]; rfl⟩
  · cases h
    cases rx
    cases ry
    exact ⟨_, .bool _, fun w => by rw [Sem.run_bind]; simp only [eqGuard, binOp, Sem.run_bind, key]; rfl⟩
  · cases h
    cases rx
    cases ry
    exact ⟨_, .bool _, fun w => by rw [Sem.run_bind]; simp only [eqGuard, binOp, Sem.run_bind, key]; rfl⟩
  · cases h
end
end Go.Den
namespace Go.Den
open Go.RowKit
structure EnvR (G : Ghost) (env : List AV) (tmps : Array Value) : Prop where
  len : env.length = tmps.size
  rep : ∀ (i : Nat) x v, env[i]? = some x → tmps[i]? = some v → RepV G x v
theorem EnvR.mono {G H : Ghost} (h : G.Le H) {env : List AV} {tmps : Array Value} (r : EnvR G env tmps) : EnvR H env tmps := ⟨r.len, fun i x v a b => (r.rep i x v a b).mono h⟩
theorem EnvR.put {G : Ghost} {env : List AV} {a : Act} (r : EnvR G env a.tmps) {d : Option Tmp} {x : AV} {v : Value} (h : RepV G x v) :
    EnvR G (match d with | some d => env.set d x | none => env) (a.put d v).tmps := by
  cases d with
  | none => exact r
  | some d =>
    refine ⟨by simp [Act.put, r.len], fun i y u hy hu => ?_⟩
    simp only [Act.put, Array.getElem?_setIfInBounds] at hu
    simp only [List.getElem?_set] at hy
    split at hy
    · rename_i he
      rw [if_pos he] at hu
      split at hy
      · split at hu
        · cases hy; cases hu; exact h
        · cases hu
      · cases hy
    · rename_i he
      rw [if_neg he] at hu
      exact r.rep i y u hy hu
def ofConst : Value → Option AV
  | .int k n => some (.one (.int k n))
  | .bool b => some (.one (.bool b))
  | .string s => some (.one (.str s))
  | .slice none 0 0 => some (.one .nilsl)
  | .pointer none => some .nilp
  | _ => none
theorem ofConst_ok {G : Ghost} {v : Value} {x : AV} (h : ofConst v = some x) : RepV G x v := by
  unfold ofConst at h
  split at h <;> first
    | (cases h; exact .one (.int _ _))
    | (cases h; exact .one (.bool _))
    | (cases h; exact .one (.str _))
    | (cases h; exact .one .nilsl)
    | (cases h; exact .nilp)
    | cases h
def ev (env : List AV) : Operand → Option AV
  | .tmp t => env[t]?
  | .const v => ofConst v
  | .func f => some (.clo f [])
  | .global _ => none
theorem ev_ok {G : Ghost} {env : List AV} {a : Act} (r : EnvR G env a.tmps) {x : Operand} {v : AV} (h : ev env x = some v) : RepV G v (a.eval x) := by
  cases x with
  | tmp t =>
    have hl := (List.getElem?_eq_some_iff.1 h).1
    have hl2 : t < a.tmps.size := by rw [← r.len]; exact hl
    have : a.eval (.tmp t) = a.tmps[t] := by simp [Act.eval, hl2]
    rw [this]
    exact r.rep t v _ h (Array.getElem?_eq_getElem hl2)
  | const c => exact ofConst_ok h
  | func f =>
    cases h
    exact .clo f (caps := []) (fun _ => undef) (fun i x hx => by simp at hx)
  | global g => cases h
def ev1 (env : List AV) (x : Operand) : Option AL := (ev env x).bind fun v => match v with | .one y => some y | _ => none
theorem ev1_ok {G : Ghost} {env : List AV} {a : Act} (r : EnvR G env a.tmps) {x : Operand} {v : AL} (h : ev1 env x = some v) : RepL G v (a.eval x) := by
  unfold ev1 at h
  obtain ⟨y, hy, h⟩ := Option.bind_eq_some_iff.1 h
  have := ev_ok r hy
  split at h
  · cases h
    cases this
    assumption
  · cases h
def evParts (env : List AV) : List (Nat × Operand) → Option (List (Nat × AV))
  | [] => some []
  | (i, x) :: r => (ev env x).bind fun v => (evParts env r).map fun vs => (i, v) :: vs
theorem evParts_ok {G : Ghost} {env : List AV} {a : Act} (r : EnvR G env a.tmps) : ∀ (ps : List (Nat × Operand)) (vs : List (Nat × AV)), evParts env ps = some vs → RepP G vs (ps.map fun p => (p.1, a.eval p.2))
  | [], vs, h => by cases h; exact .nil
  | (i, x) :: ps, vs, h => by
    simp only [evParts] at h
    obtain ⟨v, hv, h⟩ := Option.bind_eq_some_iff.1 h
    obtain ⟨us, hus, h⟩ := Option.map_eq_some_iff.1 h
    cases h
    exact .cons (ev_ok r hv) (evParts_ok r ps us hus)
def evO (env : List AV) : Option Operand → Option (Option AL)
  | none => some none
  | some x => (ev1 env x).map some
theorem evO_ok {G : Ghost} {env : List AV} {a : Act} (r : EnvR G env a.tmps) {x : Option Operand} {v : Option AL} (h : evO env x = some v) : RepO G v (x.map a.eval) := by
  cases x with
  | none => cases h; exact .none
  | some x =>
    obtain ⟨y, hy, he⟩ := Option.map_eq_some_iff.1 h
    cases he
    exact .some (ev1_ok r hy)
def evs (env : List AV) : List Operand → Option (List AV)
  | [] => some []
  | x :: r => (ev env x).bind fun v => (evs env r).map fun vs => v :: vs
theorem evs_get {G : Ghost} {env : List AV} {a : Act} (r : EnvR G env a.tmps) : ∀ (ps : List Operand) (vs : List AV), evs env ps = some vs → vs.length = ps.length ∧ ∀ (i : Nat) x, vs[i]? = some x → ∃ p, ps[i]? = some p ∧ RepV G x (a.eval p)
  | [], vs, h => by cases h; exact ⟨rfl, fun i x hx => by simp at hx⟩
  | p :: ps, vs, h => by
    simp only [evs] at h
    obtain ⟨v, hv, h⟩ := Option.bind_eq_some_iff.1 h
    obtain ⟨us, hus, h⟩ := Option.map_eq_some_iff.1 h
    subst h
    obtain ⟨h1, h2⟩ := evs_get r ps us hus
    refine ⟨by simp [h1], fun i x hx => ?_⟩
    cases i with
    | zero => simp at hx; subst hx; exact ⟨p, rfl, ev_ok r hv⟩
    | succ i => simpa using h2 i x (by simpa using hx)
def dBin2 (T : Tab) (op : BinOp) (xt : TypeId) (x y : AL) : Option AL := match dBin T op xt x y with | some v => some v | none => dEqNil T op xt x y
def dOp (T : Tab) (env : List AV) (S : St) : Op → Option (AV × St)
  | .move x => (ev env x).map fun v => (v, S)
  | .assign x => (ev env x).map fun v => (v, S)
  | .pick c a b => (ev1 env c).bind fun t => match t with
    | .bool t => (if t = true then ev env a else ev env b).map fun v => (v, S)
    | _ => none
  | .alloc t => dAlloc T t S
  | .box t x => (ev env x).bind fun v => dBox t v S
  | .build t ps => (evParts env ps.toList).bind fun vs => (dBuild T t vs).map fun v => (v, S)
  | .buildSlice t n ps => (evParts env ps.toList).bind fun vs => (dBuildSlice T t n vs S).map fun r => (.one r.1, r.2)
  | .load t p => (ev env p).bind fun p => (dLoad T t p S).map fun v => (v, S)
  | .binOp op xt x y _ => (ev1 env x).bind fun x => (ev1 env y).bind fun y => (dBin2 T op xt x y).map fun v => (.one v, S)
  | .unOp op _ x => (ev1 env x).bind fun x => (dUn op x).map fun v => (.one v, S)
  | .fieldAddr t p f => (ev env p).bind fun p => (dField T t p f).map fun v => (v, S)
  | .indexAddr t x i => (ev1 env x).bind fun x => (ev1 env i).bind fun i => (dIndexAddr T t x i).map fun v => (v, S)
  | .index t x i => (ev1 env x).bind fun x => (ev1 env i).bind fun i => (dIndex T t x i).map fun v => (.one v, S)
  | .slice t x lo hi none => (ev1 env x).bind fun x => (evO env lo).bind fun lo => (evO env hi).bind fun hi => (dSlice T t x lo hi).map fun v => (.one v, S)
  | .extract x i => (ev env x).bind fun x => (dExtract x i).map fun v => (v, S)
  | .nilCheck x => (ev env x).bind fun v => match v with | .ptr i off => some (.ptr i off, S) | _ => none
  | .convert s d x => (ev1 env x).bind fun x => (dConv T s d x).map fun v => (.one v, S)
  | .makeFunc (.func f) ⟨[]⟩ caps => (evs env caps.toList).map fun l => (.clo f l, S)
  | _ => none
section
variable {P : Program} {T : Tab} {G : Ghost} {w0 : World} {A : Nat → Prop} {S : St} {w : World}
theorem dBin2_ok (hT : T.Ok P) {op : BinOp} {t : TypeId} {x y r : AL} {vx vy : Value} (ox oy : Operand) (h : dBin2 T op t x y = some r) (rx : RepL G x vx) (ry : RepL G y vy) :
    ∃ vr, RepL G r vr ∧ ∀ w, (do eqGuard op t ox oy vx vy; binOp op t vx vy : Sem Value).run P w = .ok vr w := by
  unfold dBin2 at h
  split at h
  · rename_i v hv
    cases h
    exact dBin_ok hT ox oy hv rx ry
  · exact dEqNil_ok hT ox oy h rx ry
theorem dOp_ok (hT : T.Ok P) (hW : WR w0 A S G w) {env : List AV} {a : Act} (hE : EnvR G env a.tmps) {o : Oper} {v : AV} {S' : St} (h : dOp T env S o.op = some (v, S')) :
    ∃ H vr w', G.Le H ∧ RepV H v vr ∧ WR w0 A S' H w' ∧ (execOp a.eval o).run P w = .ok (.value vr) w' := by
  have lr := Ghost.Le.refl G
  unfold dOp at h
  split at h
  case h_1 x hop =>
    obtain ⟨v', hv, h⟩ := Option.map_eq_some_iff.1 h
    cases h
    exact ⟨G, _, w, lr, ev_ok hE hv, hW, by simp [execOp, hop]⟩
  case h_2 x hop =>
    obtain ⟨v', hv, h⟩ := Option.map_eq_some_iff.1 h
    cases h
    exact ⟨G, _, w, lr, ev_ok hE hv, hW, by simp [execOp, hop]⟩
  case h_3 c x y hop =>
    obtain ⟨t, ht, h⟩ := Option.bind_eq_some_iff.1 h
    have hc := ev1_ok hE ht
    split at h
    · rename_i t
      obtain ⟨v', hv, h⟩ := Option.map_eq_some_iff.1 h
      cases h
      have hcv : a.eval c = .bool t := by generalize a.eval c = q at hc; cases hc; rfl
      cases t with
      | true => exact ⟨G, _, w, lr, ev_ok hE (by simpa using hv), hW, by simp [execOp, hop, hcv, asBool]⟩
      | false => exact ⟨G, _, w, lr, ev_ok hE (by simpa using hv), hW, by simp [execOp, hop, hcv, asBool]⟩
    · cases h
  case h_4 t hop =>
    obtain ⟨H, vr, w', h1, h2, h3, h4⟩ := dAlloc_ok hT hW h
    exact ⟨H, vr, w', h1, h2, h3, by simp [execOp, hop, h4]⟩
  case h_5 t x hop =>
    obtain ⟨x', hx, h⟩ := Option.bind_eq_some_iff.1 h
    obtain ⟨H, vr, w', h1, h2, h3, h4⟩ := dBox_ok (P := P) hW h (ev_ok hE hx)
    exact ⟨H, vr, w', h1, h2, h3, by simp [execOp, hop, h4]⟩
  case h_6 t ps hop =>
    obtain ⟨vs, hvs, h⟩ := Option.bind_eq_some_iff.1 h
    obtain ⟨r, hr, h⟩ := Option.map_eq_some_iff.1 h
    cases h
    have hp := evParts_ok hE ps.toList vs hvs
    obtain ⟨vr, h2, h4⟩ := dBuild_ok (G := G) hT hr (ps := ps.map fun p => (p.1, a.eval p.2)) (by simpa using hp)
    exact ⟨G, vr, w, lr, h2, hW, by simp [execOp, hop, h4 w]⟩
  case h_7 t n ps hop =>
    obtain ⟨vs, hvs, h⟩ := Option.bind_eq_some_iff.1 h
    obtain ⟨⟨r, S1⟩, hr, h⟩ := Option.map_eq_some_iff.1 h
    cases h
    have hp := evParts_ok hE ps.toList vs hvs
    obtain ⟨H, vr, w', h1, h2, h3, h4⟩ := dBuildSlice_ok hT hW hr (ps := ps.map fun p => (p.1, a.eval p.2)) (by simpa using hp)
    exact ⟨H, vr, w', h1, .one h2, h3, by simp [execOp, hop, h4]⟩
  case h_8 t p hop =>
    obtain ⟨p', hp, h⟩ := Option.bind_eq_some_iff.1 h
    obtain ⟨r, hr, h⟩ := Option.map_eq_some_iff.1 h
    cases h
    obtain ⟨vr, h2, h4⟩ := dLoad_ok hT hW hr (ev_ok hE hp)
    exact ⟨G, vr, w, lr, h2, hW, by simp [execOp, hop, h4]⟩
  case h_9 op xt x y yt hop =>
    obtain ⟨x', hx, h⟩ := Option.bind_eq_some_iff.1 h
    obtain ⟨y', hy, h⟩ := Option.bind_eq_some_iff.1 h
    obtain ⟨r, hr, h⟩ := Option.map_eq_some_iff.1 h
    cases h
    obtain ⟨vr, h2, h4⟩ := dBin2_ok hT x y hr (ev1_ok hE hx) (ev1_ok hE hy)
    refine ⟨G, vr, w, lr, .one h2, hW, ?_⟩
    have := h4 w
    simp only [execOp, hop, Sem.run_bind] at this ⊢
    rw [this]
    rfl
  case h_10 op xt x hop =>
    obtain ⟨x', hx, h⟩ := Option.bind_eq_some_iff.1 h
    obtain ⟨r, hr, h⟩ := Option.map_eq_some_iff.1 h
    cases h
    obtain ⟨vr, h2, h4⟩ := dUn_ok (P := P) hr (ev1_ok hE hx)
    exact ⟨G, vr, w, lr, .one h2, hW, by simp [execOp, hop, h4 w]⟩
  case h_11 t p f hop =>
    obtain ⟨p', hp, h⟩ := Option.bind_eq_some_iff.1 h
    obtain ⟨r, hr, h⟩ := Option.map_eq_some_iff.1 h
    cases h
    obtain ⟨vr, h2, h4⟩ := dField_ok hT hr (ev_ok hE hp)
    exact ⟨G, vr, w, lr, h2, hW, by simp [execOp, hop, h4 w]⟩
  case h_12 t x i hop =>
    obtain ⟨x', hx, h⟩ := Option.bind_eq_some_iff.1 h
    obtain ⟨i', hi, h⟩ := Option.bind_eq_some_iff.1 h
    obtain ⟨r, hr, h⟩ := Option.map_eq_some_iff.1 h
    cases h
    obtain ⟨vr, h2, h4⟩ := dIndexAddr_ok hT hr (ev1_ok hE hx) (ev1_ok hE hi)
    exact ⟨G, vr, w, lr, h2, hW, by simp [execOp, hop, h4 w]⟩
  case h_13 t x i hop =>
    obtain ⟨x', hx, h⟩ := Option.bind_eq_some_iff.1 h
    obtain ⟨i', hi, h⟩ := Option.bind_eq_some_iff.1 h
    obtain ⟨r, hr, h⟩ := Option.map_eq_some_iff.1 h
    cases h
    obtain ⟨vr, h2, h4⟩ := dIndex_ok hT hr (ev1_ok hE hx) (ev1_ok hE hi)
    exact ⟨G, vr, w, lr, .one h2, hW, by simp [execOp, hop, h4 w]⟩
  case h_14 t x lo hi hop =>
    obtain ⟨x', hx, h⟩ := Option.bind_eq_some_iff.1 h
    obtain ⟨lo', hlo, h⟩ := Option.bind_eq_some_iff.1 h
    obtain ⟨hi', hhi, h⟩ := Option.bind_eq_some_iff.1 h
    obtain ⟨r, hr, h⟩ := Option.map_eq_some_iff.1 h
    cases h
    obtain ⟨vr, h2, h4⟩ := dSlice_ok hT hr (ev1_ok hE hx) (evO_ok hE hlo) (evO_ok hE hhi)
    exact ⟨G, vr, w, lr, .one h2, hW, by simp [execOp, hop, h4 w]⟩
  case h_15 x i hop =>
    obtain ⟨x', hx, h⟩ := Option.bind_eq_some_iff.1 h
    obtain ⟨r, hr, h⟩ := Option.map_eq_some_iff.1 h
    cases h
    obtain ⟨vr, h2, h4⟩ := dExtract_ok (P := P) hr (ev_ok hE hx)
    exact ⟨G, vr, w, lr, h2, hW, by simp [execOp, hop, h4 w]⟩
  case h_16 x hop =>
    obtain ⟨x', hx, h⟩ := Option.bind_eq_some_iff.1 h
    have hr := ev_ok hE hx
    split at h
    · rename_i i off
      cases h
      generalize hq : a.eval x = q at hr
      cases hr with
      | ptr hb => exact ⟨G, _, w, lr, .ptr hb, hW, by simp [execOp, hop, hq]⟩
    · cases h
  case h_17 s d x hop =>
    obtain ⟨x', hx, h⟩ := Option.bind_eq_some_iff.1 h
    obtain ⟨r, hr, h⟩ := Option.map_eq_some_iff.1 h
    cases h
    obtain ⟨vr, h2, h4⟩ := dConv_ok hT hW hr (ev1_ok hE hx)
    exact ⟨G, vr, w, lr, .one h2, hW, by simp [execOp, hop, h4]⟩
  case h_18 f caps hop =>
    obtain ⟨l, hl, h⟩ := Option.map_eq_some_iff.1 h
    cases h
    obtain ⟨h1, h2⟩ := evs_get hE _ l hl
    refine ⟨G, _, w, lr, .clo f (fun i => (caps.map a.eval)[i]?.getD undef) (fun i x hx => ?_), hW, ?_⟩
    · obtain ⟨p, hp, hr⟩ := h2 i x hx
      simp only [Array.getElem?_toList] at hp
      simp [hp, hr]
    · have e : ((List.range l.length).map fun i => (caps.map a.eval)[i]?.getD undef).toArray = caps.map a.eval := by
        apply Array.ext
        · simp [h1]
        · intro i hi1 hi2
          simp at hi2
          simp [hi2]
      rw [e]
      simp [execOp, hop, Instr.makeFunc]
  case h_19 => cases h
end
end Go.Den
namespace Go.Den
open Go.RowKit
inductive Res where
  | val (v : AV) (S : St)
  | call (f : FuncId) (args : List AV)
inductive RepA (G : Ghost) : List AV → List Value → Prop where
  | nil : RepA G [] []
  | cons {x : AV} {v : Value} {xs : List AV} {vs : List Value} (h : RepV G x v) (t : RepA G xs vs) : RepA G (x :: xs) (v :: vs)
theorem RepA.append {G : Ghost} {xs ys : List AV} {vs us : List Value} (h : RepA G xs vs) (k : RepA G ys us) : RepA G (xs ++ ys) (vs ++ us) := by
  induction h with
  | nil => exact k
  | cons h _ ih => exact .cons h ih
theorem RepA.mono {G H : Ghost} (h : G.Le H) {xs : List AV} {vs : List Value} (r : RepA G xs vs) : RepA H xs vs := by
  induction r with
  | nil => exact .nil
  | cons r _ ih => exact .cons (r.mono h) ih
theorem evs_ok {G : Ghost} {env : List AV} {a : Act} (r : EnvR G env a.tmps) : ∀ (ps : List Operand) (vs : List AV), evs env ps = some vs → RepA G vs (ps.map a.eval)
  | [], vs, h => by cases h; exact .nil
  | x :: ps, vs, h => by
    simp only [evs] at h
    obtain ⟨v, hv, h⟩ := Option.bind_eq_some_iff.1 h
    obtain ⟨us, hus, h⟩ := Option.map_eq_some_iff.1 h
    cases h
    exact .cons (ev_ok r hv) (evs_ok r ps us hus)
def dAppend2 (T : Tab) (t : TypeId) (s x : AL) (S : St) : Option (AL × St) :=
  match x with
  | .nilsl => (T.desc t).bind fun d => d.elem.bind fun e => (T.desc e).bind fun _ => match s with | .nilsl => some (s, S) | .sl .. => some (s, S) | _ => none
  | .sl _ 0 _ => (T.desc t).bind fun d => d.elem.bind fun e => (T.desc e).bind fun _ => match s with | .nilsl => some (s, S) | .sl .. => some (s, S) | _ => none
  | _ => dAppend T t s x S
theorem run_append_empty {P : Program} {t ty e : TypeId} {i : TypeInfo} (hu : P.underlying t = some (.slice e)) (hi : P.info? e = some i) (w : World) (a b : Option Addr) (n c c' : Nat) (hc : n ≤ c) :
    (Builtin.append_ #[t, t] ty #[.slice a n c, .slice b 0 c']).run P w = .ok (.slice a n c) w := by
  have hz : ∀ (a : Addr), (loadCells a 0).run P w = .ok #[] w := fun a => rfl
  cases b <;> cases a <;> simp [Builtin.append_, run_underlying hu, sizeOf, typeInfo, hi, Builtin.lenOf, Builtin.firstCells, hc, hz, storeCells]
theorem dAppend2_ok {P : Program} {T : Tab} {G : Ghost} {w0 : World} {A : Nat → Prop} {S : St} {w : World} (hT : T.Ok P) (hW : WR w0 A S G w) {t ty : TypeId} {s x r : AL} {S' : St} (h : dAppend2 T t s x S = some (r, S')) {vs vx : Value} (rs : RepL G s vs) (rx : RepL G x vx) :
    ∃ H vr w', G.Le H ∧ RepL H r vr ∧ WR w0 A S' H w' ∧ (Builtin.append_ #[t, t] ty #[vs, vx]).run P w = .ok vr w' := by
  unfold dAppend2 at h
  have key : (T.desc t).bind (fun d => d.elem.bind fun e => (T.desc e).bind fun _ => match s with | .nilsl => some (s, S) | .sl .. => some (s, S) | _ => none) = some (r, S') → (∃ b c', vx = .slice b 0 c') →
      ∃ H vr w', G.Le H ∧ RepL H r vr ∧ WR w0 A S' H w' ∧ (Builtin.append_ #[t, t] ty #[vs, vx]).run P w = .ok vr w' := by
    intro h hx
    obtain ⟨b, c', rfl⟩ := hx
    replace h := Option.bind_eq_some_iff.1 h
    obtain ⟨d, hd, h⟩ := h
    replace h := Option.bind_eq_some_iff.1 h
    obtain ⟨e, he, h⟩ := h
    replace h := Option.bind_eq_some_iff.1 h
    obtain ⟨de, hde, h⟩ := h
    obtain ⟨u, hu, _, hel, _⟩ := (hT t d hd).und
    obtain rfl := hel e he
    obtain ⟨ie, z, hie, _⟩ := (hT e de hde).info
    split at h
    · cases h
      cases rs
      exact ⟨G, _, w, Ghost.Le.refl G, .nilsl, hW, run_append_empty hu hie w none b 0 0 c' (Nat.le_refl 0)⟩
    · cases h
      cases rs with
      | sl f hc hp hx ht => exact ⟨G, _, w, Ghost.Le.refl G, .sl f hc hp hx ht, hW, run_append_empty hu hie w _ b _ _ c' hc⟩
    · cases h
  split at h
  · cases rx
    exact key h ⟨none, 0, rfl⟩
  · cases rx
    exact key h ⟨_, _, rfl⟩
  · exact dAppend_ok hT hW h rs rx
def dCallee (T : Tab) (env : List AV) (S : St) (c : Call) : Option Res :=
  match c.callee with
  | .builtin .len => match c.args.toList, c.argTypes.toList with
    | [x], [t] => (ev1 env x).bind fun x => (dLen T t x).map fun v => .val (.one v) S
    | _, _ => none
  | .builtin .append => match c.args.toList, c.argTypes.toList with
    | [s, x], [t, t'] => if t = t' then (ev1 env s).bind fun s => (ev1 env x).bind fun x => (dAppend2 T t s x S).map fun r => .val (.one r.1) r.2 else none
    | _, _ => none
  | .value f => (ev env f).bind fun f => match f with
    | .clo f caps => (evs env c.args.toList).map fun vs => .call f (vs ++ caps)
    | _ => none
  | _ => none
def dOper (T : Tab) (env : List AV) (S : St) : Op → Option Res
  | .store t p x => (ev env p).bind fun p => (ev env x).bind fun x => (dStore T t p x S).map fun S' => .val .junk S'
  | .call c => dCallee T env S c
  | op => (dOp T env S op).map fun r => .val r.1 r.2
section
variable {P : Program} {T : Tab} {G : Ghost} {w0 : World} {A : Nat → Prop} {S : St} {w : World}
def Callable (P : Program) (f : FuncId) : Prop := ∃ fn, P.funcs[f]? = some fn ∧ (fn.name == "runtime.NumGoroutine") = false ∧ fn.body.isSome = true
theorem dOper_ok (hT : T.Ok P) (hW : WR w0 A S G w) {env : List AV} {a : Act} (hE : EnvR G env a.tmps) {o : Oper} {r : Res} (h : dOper T env S o.op = some r) :
    match r with
    | .val v S' => ∃ H w', G.Le H ∧ WR w0 A S' H w' ∧ ((∃ vr, RepV H v vr ∧ (execOp a.eval o).run P w = .ok (.value vr) w') ∨ (v = .junk ∧ (execOp a.eval o).run P w = .ok .skip w'))
    | .call f args => ∃ vs : Array Value, RepA G args vs.toList ∧ (Callable P f → (execOp a.eval o).run P w = .ok (.enter f vs) w) := by
  unfold dOper at h
  split at h
  case h_1 t p x hop =>
    obtain ⟨p', hp, h⟩ := Option.bind_eq_some_iff.1 h
    obtain ⟨x', hx, h⟩ := Option.bind_eq_some_iff.1 h
    obtain ⟨S1, hS, h⟩ := Option.map_eq_some_iff.1 h
    cases h
    obtain ⟨w', h1, h2⟩ := dStore_ok hT hW hS (ev_ok hE hp) (ev_ok hE hx)
    exact ⟨G, w', Ghost.Le.refl G, h1, .inr ⟨rfl, by simp [execOp, hop, h2]⟩⟩
  case h_2 c hop =>
    unfold dCallee at h
    split at h
    case h_1 hc =>
      split at h
      · rename_i x t hax hat
        obtain ⟨x', hx, h⟩ := Option.bind_eq_some_iff.1 h
        obtain ⟨v, hv, h⟩ := Option.map_eq_some_iff.1 h
        cases h
        obtain ⟨vr, h2, h4⟩ := dLen_ok (ty := o.type) hT hv (ev1_ok hE hx)
        have e1 : c.args = #[x] := by apply Array.ext'; simpa using hax
        have e2 : c.argTypes = #[t] := by apply Array.ext'; simpa using hat
        exact ⟨G, w, Ghost.Le.refl G, hW, .inl ⟨vr, .one h2, by simp [execOp, hop, resolve, hc, invoke, builtin, e1, e2, h4 w]⟩⟩
      · cases h
    case h_2 hc =>
      split at h
      · rename_i s x t t' hax hat
        split at h
        · rename_i htt
          subst htt
          obtain ⟨s', hs, h⟩ := Option.bind_eq_some_iff.1 h
          obtain ⟨x', hx, h⟩ := Option.bind_eq_some_iff.1 h
          obtain ⟨⟨v, S1⟩, hv, h⟩ := Option.map_eq_some_iff.1 h
          cases h
          obtain ⟨H, vr, w', h1, h2, h3, h4⟩ := dAppend2_ok (ty := o.type) hT hW hv (ev1_ok hE hs) (ev1_ok hE hx)
          have e1 : c.args = #[s, x] := by apply Array.ext'; simpa using hax
          have e2 : c.argTypes = #[t, t] := by apply Array.ext'; simpa using hat
          exact ⟨H, w', h1, h3, .inl ⟨vr, .one h2, by simp [execOp, hop, resolve, hc, invoke, builtin, e1, e2, h4]⟩⟩
        · cases h
      · cases h
    case h_3 f hc =>
      obtain ⟨f', hf, h⟩ := Option.bind_eq_some_iff.1 h
      have hfr := ev_ok hE hf
      split at h
      · rename_i g caps
        obtain ⟨vs, hvs, h⟩ := Option.map_eq_some_iff.1 h
        cases h
        have ha := evs_ok hE _ _ hvs
        generalize hq : a.eval f = q at hfr
        cases hfr with
        | clo _ cg hcg =>
          have hcaps : ∀ (l : List AV) (k : Nat), (∀ (i : Nat) x, l[i]? = some x → RepV G x (cg (k + i))) → RepA G l ((List.range l.length).map fun i => cg (k + i)) := by
            intro l
            induction l with
            | nil => intro k _; exact .nil
            | cons x l ih =>
              intro k hk
              rw [List.length_cons, List.range_succ_eq_map, List.map_cons, List.map_map]
              refine .cons (by simpa using hk 0 x rfl) ?_
              have := ih (k + 1) (fun i y hy => by have := hk (i + 1) y hy; rwa [show k + (i + 1) = k + 1 + i by omega] at this)
              have e : ((fun i => cg (k + i)) ∘ Nat.succ) = fun i => cg (k + 1 + i) := by funext i; simp; congr 1; omega
              rw [e]
              exact this
          have hc2 := hcaps caps 0 (fun i x hx => by rw [Nat.zero_add]; exact hcg i x hx)
          simp only [Nat.zero_add] at hc2
          refine ⟨c.args.map a.eval ++ ((List.range caps.length).map cg).toArray, by simpa using ha.append hc2, fun hcall => ?_⟩
          obtain ⟨fn, h1, h2, h3⟩ := hcall
          have h3' : fn.body ≠ none := by intro hb; rw [hb] at h3; cases h3
          have h2' : fn.name ≠ "runtime.NumGoroutine" := by intro hb; rw [hb] at h2; cases h2
          simp [execOp, hop, resolve, hc, hq, Deferred.ofValue, invoke, callFunc, h1, h2', h3']
      · cases h
    case h_4 => cases h
  case h_3 =>
    obtain ⟨⟨v, S1⟩, hv, h⟩ := Option.map_eq_some_iff.1 h
    cases h
    obtain ⟨H, vr, w', h1, h2, h3, h4⟩ := dOp_ok hT hW hE (o := o) hv
    exact ⟨H, w', h1, h3, .inl ⟨vr, h2, h4⟩⟩
end
end Go.Den
namespace Go.Den
open Go.RowKit
theorem RepV.nought (G : Ghost) : RepV G (.tup []) undef := .tup (xs := []) (fun _ => undef) (fun i x hx => by simp at hx)
def put (env : List AV) (d : Option Tmp) (x : AV) : List AV := match d with | some d => env.set d x | none => env
def dWant (ops : Array Oper) (env : List AV) (o : Oper) : Option Bool :=
  match o.guard with
  | none => some true
  | some (j, want) => ((ops[j]?).bind (·.dst)).bind fun d => match env[d]? with
    | some (.one (.bool b)) => some (b == want)
    | some (.tup []) => some false
    | _ => none
section
theorem dWant_ok {G : Ghost} {ops : Array Oper} {env : List AV} {a : Act} (hE : EnvR G env a.tmps) {o : Oper} {b : Bool} (h : dWant ops env o = some b) : Region.wanted o (yielded ops a.tmps) = b := by
  unfold dWant at h
  unfold Region.wanted
  split at h
  · rename_i hg
    rw [hg]
    cases h
    rfl
  · rename_i j want hg
    rw [hg]
    obtain ⟨d, hd, h⟩ := Option.bind_eq_some_iff.1 h
    split at h
    · rename_i b' hb
      cases h
      have hl := (List.getElem?_eq_some_iff.1 hb).1
      have hl2 : d < a.tmps.size := by rw [← hE.len]; exact hl
      have hr := hE.rep d _ _ hb (Array.getElem?_eq_getElem hl2)
      have hv : a.tmps[d] = .bool b' := by
        generalize a.tmps[d] = q at hr
        cases hr with
        | one hr => cases hr; rfl
      have hy : yielded ops a.tmps j = some b' := by
        unfold yielded
        rw [hd]
        simp [hl2, hv]
      simp only [hy]
      cases b' <;> cases want <;> rfl
    · rename_i hb
      cases h
      have hl := (List.getElem?_eq_some_iff.1 hb).1
      have hl2 : d < a.tmps.size := by rw [← hE.len]; exact hl
      have hr := hE.rep d _ _ hb (Array.getElem?_eq_getElem hl2)
      have hv : a.tmps[d] = .tuple #[] := by
        generalize a.tmps[d] = q at hr
        cases hr with
        | tup => rfl
      have hy : yielded ops a.tmps j = none := by
        unfold yielded
        rw [hd]
        simp [hl2, hv]
      simp only [hy]
      rfl
    · cases h
theorem EnvR.put' {G : Ghost} {env : List AV} {a : Act} (r : EnvR G env a.tmps) (d : Option Tmp) {x : AV} {v : Value} (h : RepV G x v) : EnvR G (Go.Den.put env d x) (a.put d v).tmps := r.put h
theorem put_defers (a : Act) (d : Option Tmp) (v : Value) : (a.put d v).defers = a.defers := by cases d <;> rfl
end
end Go.Den
namespace Go.Den
open Go.RowKit
def dRes1 (T : Tab) (env : List AV) (S : St) : ResultVar → Option AV
  | .tmp t => env[t]?
  | .cell a t => (env[a]?).bind fun p => dLoad T t p S
def dResL (T : Tab) (env : List AV) (S : St) : List ResultVar → Option (List AV)
  | [] => some []
  | r :: rs => (dRes1 T env S r).bind fun v => (dResL T env S rs).map fun vs => v :: vs
def dResults (T : Tab) (fn : Func) (env : List AV) (S : St) : Option AV :=
  (dResL T env S fn.results.toList).map fun vs => match vs with
    | [v] => v
    | vs => .tup vs
def readVar (tmps : Array Value) : ResultVar → Sem Value
  | .tmp t => pure (tmps.getD t undef)
  | .cell a t => do loadVar t (← asAddr (tmps.getD a undef))
section
variable {P : Program} {T : Tab} {w0 : World} {A : Nat → Prop}
theorem dRes1_ok (hT : T.Ok P) {G : Ghost} {S : St} {w : World} (hW : WR w0 A S G w) {env : List AV} {tmps : Array Value} (hE : EnvR G env tmps) {r : ResultVar} {x : AV} (h : dRes1 T env S r = some x) :
    ∃ v, RepV G x v ∧ (readVar tmps r).run P w = .ok v w := by
  cases r with
  | tmp t =>
    have hl := (List.getElem?_eq_some_iff.1 h).1
    have hl2 : t < tmps.size := by rw [← hE.len]; exact hl
    exact ⟨tmps[t], hE.rep t x _ h (Array.getElem?_eq_getElem hl2), by simp [readVar, hl2]⟩
  | cell a t =>
    obtain ⟨p, hp, h⟩ := Option.bind_eq_some_iff.1 h
    have hl := (List.getElem?_eq_some_iff.1 hp).1
    have hl2 : a < tmps.size := by rw [← hE.len]; exact hl
    have hr := hE.rep a _ _ hp (Array.getElem?_eq_getElem hl2)
    obtain ⟨vr, h1, h2⟩ := dLoad_ok hT hW h hr
    refine ⟨vr, h1, ?_⟩
    have hg : tmps.getD a undef = tmps[a] := by simp [hl2]
    rw [← h2]
    show (do loadVar t (← asAddr (tmps.getD a undef)) : Sem Value).run P w = _
    rw [hg]
    unfold Instr.loadAt
    generalize tmps[a] = q at *
    cases hr <;> first | rfl | (simp [dLoad] at h; done) | (cases ht : T.desc t <;> simp [dLoad, ht] at h)
theorem dResL_ok (hT : T.Ok P) {G : Ghost} {S : St} {w : World} (hW : WR w0 A S G w) {env : List AV} {tmps : Array Value} (hE : EnvR G env tmps) : ∀ (rs : List ResultVar) (xs : List AV), dResL T env S rs = some xs →
    ∃ vs, RepA G xs vs ∧ (rs.mapM (readVar tmps)).run P w = .ok vs w
  | [], xs, h => by cases h; exact ⟨[], .nil, rfl⟩
  | r :: rs, xs, h => by
    simp only [dResL] at h
    obtain ⟨v, hv, h⟩ := Option.bind_eq_some_iff.1 h
    obtain ⟨us, hus, h⟩ := Option.map_eq_some_iff.1 h
    cases h
    obtain ⟨v1, h1, h2⟩ := dRes1_ok hT hW hE hv
    obtain ⟨vs, h3, h4⟩ := dResL_ok hT hW hE rs us hus
    refine ⟨v1 :: vs, .cons h1 h3, ?_⟩
    rw [List.mapM_cons, Sem.run_bind, h2, Result.andThen_ok, Sem.run_bind, h4]
    rfl
theorem RepA.tup {G : Ghost} {xs : List AV} {vs : List Value} (h : RepA G xs vs) : RepV G (.tup xs) (.tuple vs.toArray) := by
  have key : ∀ (i : Nat) x, xs[i]? = some x → ∃ v, vs[i]? = some v ∧ RepV G x v := by
    induction h with
    | nil => intro i x hx; simp at hx
    | cons h t ih =>
      intro i x hx
      cases i with
      | zero => simp at hx; subst hx; exact ⟨_, rfl, h⟩
      | succ i => exact ih i x (by simpa using hx)
  have hlen : xs.length = vs.length := by
    clear key
    induction h with
    | nil => rfl
    | cons _ _ ih => simp [ih]
  have e : vs = (List.range xs.length).map fun i => vs[i]?.getD default := by
    apply List.ext_getElem?
    intro i
    rcases Nat.lt_or_ge i xs.length with hi | hi
    · rw [List.getElem?_map, List.getElem?_range hi, List.getElem?_eq_getElem (by omega)]
      simp [hlen ▸ hi]
    · rw [List.getElem?_eq_none (by omega), List.getElem?_eq_none (by simp; omega)]
  rw [e]
  refine .tup _ (fun i x hx => ?_)
  obtain ⟨v, hv, hr⟩ := key i x hx
  rw [hv]
  exact hr
theorem dResults_ok (hT : T.Ok P) {G : Ghost} {S : St} {w : World} (hW : WR w0 A S G w) {env : List AV} {tmps : Array Value} (hE : EnvR G env tmps) {fn : Func} {x : AV} (h : dResults T fn env S = some x) :
    ∃ v, RepV G x v ∧ (results fn tmps).run P w = .ok v w := by
  obtain ⟨xs, hxs, hx⟩ := Option.map_eq_some_iff.1 h
  obtain ⟨vs, hr, hrun⟩ := dResL_ok hT hW hE _ xs hxs
  have hm : (fn.results.mapM (readVar tmps)).run P w = .ok vs.toArray w := by
    rw [Array.mapM_eq_mapM_toList]
    show ((List.toArray <$> fn.results.toList.mapM (readVar tmps)) : Sem (Array Value)).run P w = _
    rw [map_eq_pure_bind, Sem.run_bind, hrun]
    rfl
  have hres : (results fn tmps).run P w = .ok (if h : vs.toArray.size = 1 then vs.toArray[0] else .tuple vs.toArray) w := by
    show (do let vs ← fn.results.mapM (readVar tmps); pure (if h : vs.size = 1 then vs[0] else .tuple vs) : Sem Value).run P w = _
    rw [Sem.run_bind, hm]
    rfl
  refine ⟨_, ?_, hres⟩
  cases hr with
  | nil => subst hx; exact RepA.tup .nil
  | cons h1 t =>
    cases t with
    | nil => subst hx; exact h1
    | cons h2 t =>
      subst hx
      rw [dif_neg (by simp)]
      exact RepA.tup (.cons h1 (.cons h2 t))
theorem RepA.env {G : Ghost} {xs : List AV} {vs : List Value} (h : RepA G xs vs) : xs.length = vs.length ∧ ∀ (i : Nat) x v, xs[i]? = some x → vs[i]? = some v → RepV G x v := by
  induction h with
  | nil => exact ⟨rfl, fun i x v hx => by simp at hx⟩
  | cons h t ih =>
    refine ⟨by simp [ih.1], fun i x v hx hv => ?_⟩
    cases i with
    | zero => simp at hx hv; subst hx; subst hv; exact h
    | succ i => exact ih.2 i x v (by simpa using hx) (by simpa using hv)
end
end Go.Den
namespace Go.Den
open Go.RowKit
abbrev Rho := Nat → AV
def EV (n : Nat) (ρ : Rho) : List AV := (List.range n).map ρ
def upd (ρ : Rho) : Option Tmp → AV → Rho
  | some d, v => fun i => if i = d then v else ρ i
  | none, _ => ρ
theorem EV_len (n : Nat) (ρ : Rho) : (EV n ρ).length = n := by simp [EV]
theorem EV_get (n : Nat) (ρ : Rho) (t : Nat) : (EV n ρ)[t]? = if t < n then some (ρ t) else none := by
  unfold EV
  by_cases h : t < n
  · rw [if_pos h, List.getElem?_map, List.getElem?_range h]; rfl
  · rw [if_neg h, List.getElem?_eq_none (by simp; omega)]
theorem EV_put (n : Nat) (ρ : Rho) (d : Option Tmp) (v : AV) : put (EV n ρ) d v = EV n (upd ρ d v) := by
  cases d with
  | none => rfl
  | some d =>
    apply List.ext_getElem?
    intro i
    show ((EV n ρ).set d v)[i]? = _
    rw [List.getElem?_set, EV_get, EV_get, EV_len]
    simp only [upd]
    by_cases h : d = i
    · subst h
      by_cases h2 : d < n <;> simp [h2]
    · have h' : i ≠ d := Ne.symm h
      simp [h, h']
def Tot (P : Program) (w0 : World) (f : FuncId) (args : List AV) (S : St) (Q : AV → St → Prop) : Prop :=
  Callable P f ∧ ∀ (A : Nat → Prop) (G : Ghost) (w : World) (vs : Array Value), WR w0 A S G w → RepA G args vs.toList →
    Calls P f vs w fun e w' => ∃ v S' vr H, e = .returned vr ∧ G.Le H ∧ RepV H v vr ∧ WR w0 A S' H w' ∧ Q v S'
theorem Tot.mono {P : Program} {w0 : World} {f : FuncId} {args : List AV} {S : St} {Q R : AV → St → Prop} (h : Tot P w0 f args S Q) (k : ∀ v S', Q v S' → R v S') : Tot P w0 f args S R :=
  ⟨h.1, fun A G w vs hW hA => (h.2 A G w vs hW hA).mono fun _ _ ⟨v, S', vr, H, h1, h2, h3, h4, h5⟩ => ⟨v, S', vr, H, h1, h2, h3, h4, k v S' h5⟩⟩
noncomputable def Ghost.but (G : Ghost) (Y : List Nat) : Ghost := { G with prot := fun b i => open Classical in if ∃ t c, t ∈ Y ∧ G.hdr t = some (b, c) then none else G.prot b i }
def TotY (P : Program) (w0 : World) (Y : List Nat) (f : FuncId) (args : List AV) (S : St) (Q : AV → St → Prop) : Prop :=
  Callable P f ∧ ∀ (A : Nat → Prop) (G : Ghost) (w : World) (vs : Array Value), WR w0 A S G w → RepA G args vs.toList →
    Calls P f vs w fun e w' => ∃ v S' vr H, e = .returned vr ∧ (G.but Y).Le H ∧ RepV H v vr ∧ WR w0 A S' H w' ∧ Q v S'
theorem TotY.mono {P : Program} {w0 : World} {Y : List Nat} {f : FuncId} {args : List AV} {S : St} {Q R : AV → St → Prop} (h : TotY P w0 Y f args S Q) (k : ∀ v S', Q v S' → R v S') : TotY P w0 Y f args S R :=
  ⟨h.1, fun A G w vs hW hA => (h.2 A G w vs hW hA).mono fun _ _ ⟨v, S', vr, H, h1, h2, h3, h4, h5⟩ => ⟨v, S', vr, H, h1, h2, h3, h4, k v S' h5⟩⟩
def St.has (S : St) (u : Nat) : Bool := (S.tok u).isSome || Nat.blt u S.old
mutual
/-- A value that bears on nothing of a token's row. -/
def AL.clr (p : Nat → Bool) (tk : Nat) : AL → Bool
  | .int .. => true
  | .bool _ => true
  | .str _ => true
  | .nilsl => true
  | .undef => true
  | .sl none _ _ => false
  | .sl (some u) _ xs => !Nat.beq u tk && p u && clrs p tk xs
def clrs (p : Nat → Bool) (tk : Nat) : List AL → Bool
  | [] => true
  | x :: xs => x.clr p tk && clrs p tk xs
end
theorem clrs_mem {p : Nat → Bool} {tk : Nat} : ∀ {xs : List AL}, clrs p tk xs = true → ∀ x, x ∈ xs → x.clr p tk = true
  | [], _, x, hx => by cases hx
  | y :: ys, h, x, hx => by
    rw [clrs, Bool.and_eq_true] at h
    rcases List.mem_cons.1 hx with rfl | hx
    · exact h.1
    · exact clrs_mem h.2 x hx
def AL.clear (S : St) (Y : List Nat) (x : AL) : Bool := Y.all fun tk => x.clr S.has tk
def AL.keep (S : St) (Y : List Nat) (x : AL) : AL := if x.clear S Y = true then x else .undef
def AV.keep (S : St) (Y : List Nat) : AV → AV
  | .one x => .one (x.keep S Y)
  | .agg xs => .agg (xs.map (AL.keep S Y))
  | .ptr i off => .ptr i off
  | .nilp => .nilp
  | _ => .junk
def dCall (P : Program) (w0 : World) (own : Bool) (ρ : Rho) (d : Option Tmp) (f : FuncId) (args : List AV) (S : St) (K : Rho → St → Prop) : Prop :=
  Tot P w0 f args S (fun v S' => K (upd ρ d v) S') ∨
    own = true ∧ ∃ Y, (∀ t, t ∈ Y → t ∈ S.young ∧ (S.tok t).isSome = true) ∧ TotY P w0 Y f args S fun v S' => K (upd (fun i => (ρ i).keep S Y) d v) S'
def dRes (P : Program) (w0 : World) (own : Bool) (ρ : Rho) (d : Option Tmp) (S : St) (K : Rho → St → Prop) : Option Res → Prop
  | some (.val v S') => K (upd ρ d v) S'
  | some (.call f args) => dCall P w0 own ρ d f args S K
  | none => False
def dOne (P : Program) (w0 : World) (T : Tab) (n : Nat) (ops : Array Oper) (o : Oper) (ρ : Rho) (S : St) (K : Rho → St → Prop) : Prop :=
  match dWant ops (EV n ρ) o with
  | some true => dRes P w0 T.own ρ o.dst S K (dOper T (EV n ρ) S o.op)
  | some false => K (upd ρ o.dst (.tup [])) S
  | none => False
def SemOne (P : Program) (w0 : World) (n : Nat) (ops : Array Oper) (o : Oper) (ρ : Rho) (S : St) (K : Rho → St → Prop) : Prop :=
  dWant ops (EV n ρ) o = some true ∧ ∀ (A : Nat → Prop) (E G : Ghost) (a : Act) (w : World) (K' : Act → World → Prop) (Q : Exit → Act → World → Prop), (∀ b i, A b → E.prot b i = none) → E.Le G → EnvR G (EV n ρ) a.tmps → WR w0 A S G w →
    (∀ ρ' S' H a' w', K ρ' S' → E.Le H → EnvR H (EV n ρ') a'.tmps → a'.defers = a.defers → WR w0 A S' H w' → K' a' w') → o.wp P a w K' Q
def dOneY (P : Program) (w0 : World) (T : Tab) (n : Nat) (ops : Array Oper) (o : Oper) (ρ : Rho) (S : St) (K : Rho → St → Prop) : Prop := dOne P w0 T n ops o ρ S K ∨ (T.own = true ∧ SemOne P w0 n ops o ρ S K)
def dList (P : Program) (w0 : World) (T : Tab) (n : Nat) (ops : Array Oper) : List Oper → Rho → St → (Rho → St → Prop) → Prop
  | [], ρ, S, K => K ρ S
  | o :: r, ρ, S, K => dOneY P w0 T n ops o ρ S fun ρ S => dList P w0 T n ops r ρ S K
inductive Plan where
  | done
  | take (i : Nat) (p : Plan)
  | all (l : List (Nat × Plan))
def still : Op → Bool
  | .move _ | .assign _ | .pick .. | .binOp .. | .unOp .. | .fieldAddr .. | .extract .. | .index .. | .indexAddr .. | .build .. | .nilCheck _ => true
  | .slice _ _ _ _ none => true
  | .call c => match c.callee with | .builtin .len => true | _ => false
  | _ => false
mutual
def planOk (ops : Array Oper) : Nat → Array Bool → Plan → Bool
  | _, listed, .done => (Region.ready .any ops listed).isEmpty
  | 0, _, _ => false
  | fuel + 1, listed, .take i p => (match ops[i]? with | some o => still o.op | none => false) && Region.free .any ops listed i && (Region.ready .any ops listed).contains i && planOk ops fuel (listed.setIfInBounds i true) p
  | fuel + 1, listed, .all l => !l.isEmpty && (Region.ready .any ops listed == l.map (·.1)) && planOkL ops fuel listed l
def planOkL (ops : Array Oper) : Nat → Array Bool → List (Nat × Plan) → Bool
  | _, _, [] => true
  | fuel, listed, (i, p) :: r => planOk ops fuel (listed.setIfInBounds i true) p && planOkL ops fuel listed r
end

mutual
def dPlan (P : Program) (w0 : World) (T : Tab) (n : Nat) (ops : Array Oper) : Plan → Rho → St → (Rho → St → Prop) → Prop
  | .done, ρ, S, K => K ρ S
  | .take i p, ρ, S, K => match ops[i]? with
    | some o => dOne P w0 T n ops o ρ S fun ρ S => dPlan P w0 T n ops p ρ S K
    | none => False
  | .all l, ρ, S, K => dPlanL P w0 T n ops l ρ S K
def dPlanL (P : Program) (w0 : World) (T : Tab) (n : Nat) (ops : Array Oper) : List (Nat × Plan) → Rho → St → (Rho → St → Prop) → Prop
  | [], _, _, _ => True
  | (i, p) :: r, ρ, S, K => (match ops[i]? with
    | some o => dOneY P w0 T n ops o ρ S fun ρ S => dPlan P w0 T n ops p ρ S K
    | none => False) ∧ dPlanL P w0 T n ops r ρ S K
end

inductive Ex where
  | normal
  | exit (id : Nat)
  | ret
def Ex.toExit : Ex → Exit
  | .normal => .normal
  | .exit id => .exit id
  | .ret => .ret
def dSeq (K : Rho → St → Prop) (Q : Ex → Rho → St → Prop) : Ex → Rho → St → Prop
  | .normal, ρ, S => K ρ S
  | e, ρ, S => Q e ρ S
def dBlk (id : Nat) (Q : Ex → Rho → St → Prop) : Ex → Rho → St → Prop
  | .exit id', ρ, S => if id' = id then Q .normal ρ S else Q (.exit id') ρ S
  | e, ρ, S => Q e ρ S
def capsIn (k : Nat) : List AV → Bool
  | [] => true
  | .ptr i _ :: r => Nat.blt i k && capsIn k r
  | _ :: _ => false
def AV.cutP (k : Nat) : AV → AV
  | .ptr i off => if i < k then .ptr i off else .junk
  | .clo f caps => match capsIn k caps with | true => .clo f caps | false => .junk
  | .tup _ => .junk
  | x => x
def St.takeB (S : St) (k : Nat) : St := { S with boxes := S.boxes.take k }
def dwp (P : Program) (w0 : World) (T : Tab) (n nb0 : Nat) : Code → Rho → St → (Ex → Rho → St → Prop) → Prop
  | .skip, ρ, S, Q => Q .normal ρ S
  | .label _, ρ, S, Q => Q .normal ρ S
  | .exit id, ρ, S, Q => Q (.exit id) ρ S
  | .ret, ρ, S, Q => Q .ret ρ S
  | .region _ ops false, ρ, S, Q => dList P w0 T n ops ops.toList ρ S (Q .normal)
  | .region _ ops true, ρ, S, Q => P.follows .mixedOrders = true ∧ ∃ p, Region.noSelect ops = true ∧ planOk ops ops.size (Array.replicate ops.size false) p = true ∧ dPlan P w0 T n ops p ρ S (Q .normal)
  | .seq a b, ρ, S, Q => dwp P w0 T n nb0 a ρ S (dSeq (fun ρ S => dwp P w0 T n nb0 b ρ S Q) Q)
  | .cond c a b, ρ, S, Q => match ev1 (EV n ρ) c with
    | some (.bool t) => (t = true → dwp P w0 T n nb0 a ρ S Q) ∧ (t = false → dwp P w0 T n nb0 b ρ S Q)
    | _ => False
  | .block id c, ρ, S, Q => dwp P w0 T n nb0 c ρ S (dBlk id Q)
  | .loop c, ρ, S, Q => ∃ (I : Nat → Rho → St → Prop) (m : Nat), I m ρ S ∧ ∀ m ρ S, I m ρ S → dwp P w0 T n nb0 c ρ S fun e ρ S => ∃ k, nb0 ≤ k ∧ dSeq (fun ρ S => ∃ m', m' < m ∧ I m' ρ S) Q e (fun i => (ρ i).cutP k) (S.takeB k)
  | _, _, _, _ => False
end Go.Den
namespace Go.Den
open Go.RowKit
def ofCell : Value → AL
  | .int k n => .int k n
  | .bool b => .bool b
  | .string s => .str s
  | .slice none 0 0 => .nilsl
  | _ => .undef
theorem ofCell_ok (G : Ghost) (v : Value) (h : v.oneCell' = true) : RepL G (ofCell v) v := by
  unfold ofCell
  split
  · exact .int _ _
  · exact .bool _
  · exact .str _
  · exact .nilsl
  · exact .undef _ h
theorem ofCells_ok (G : Ghost) (vs : List Value) (h : vs.all (·.oneCell') = true) : RepC G (vs.map ofCell) vs :=
  ⟨by simp, fun i x v hx hv => by
    rw [List.getElem?_map, hv] at hx
    cases hx
    exact ofCell_ok G v (by rw [List.all_eq_true] at h; exact h v (List.mem_of_getElem? hv))⟩
def offOf (P : Program) (u : TypeDesc) : List (Option Nat) :=
  match u with
  | .struct fields => fields.toList.map fun f => (P.info? f.type).bind fun i => if i.size = 0 then none else some f.offset
  | _ => []
def partsOf (P : Program) (u : TypeDesc) : List (Nat × Nat) :=
  match u with
  | .struct fields => (fields.toList.mapM fun f => (P.info? f.type).map fun i => (f.offset, i.size)).getD []
  | _ => []
def elemOf : TypeDesc → Option TypeId | .slice e => some e | _ => none
def boolOf : TypeDesc → Bool | .bool => true | _ => false
def strOf : TypeDesc → Bool | .string => true | _ => false
def ikOf : TypeDesc → Option IntKind | .int k => some k | _ => none
def descOf (P : Program) (i : TypeInfo) (z : Value) (u : TypeDesc) : D :=
  { row := u.isRow, size := i.size, bytes := i.bytes, offs := offOf P u, elem := elemOf u, isBool := boolOf u, isStr := strOf u, ik := ikOf u, parts := partsOf P u, zero := z.cells.toList.map ofCell }
def tabOf (P : Program) : Tab := ⟨fun t => (P.info? t).bind fun i => i.zero.bind fun z => (P.underlying t).bind fun u => if z.cells.toList.all (·.oneCell') = true then some (descOf P i z u) else none, false⟩
def tabY (P : Program) : Tab := ⟨(tabOf P).desc, true⟩
theorem tabOf_ok (P : Program) : (tabOf P).Ok P := by
  intro t d h
  replace h := Option.bind_eq_some_iff.1 h
  obtain ⟨i, hi, h⟩ := h
  replace h := Option.bind_eq_some_iff.1 h
  obtain ⟨z, hz, h⟩ := h
  replace h := Option.bind_eq_some_iff.1 h
  obtain ⟨u, hu, h⟩ := h
  split at h
  case isFalse => cases h
  rename_i hone
  cases h
  refine ⟨⟨i, z, hi, rfl, rfl, hz, fun G => ofCells_ok G _ hone⟩, ⟨u, hu, rfl, fun e he => ?_, fun hb => ?_, fun hs => ?_, fun k hk => ?_⟩, fun f o ho => ?_, fun hp => ?_⟩
  · cases u <;> simp [descOf, elemOf] at he
    subst he; rfl
  · cases u <;> simp [descOf, boolOf] at hb
    rfl
  · cases u <;> simp [descOf, strOf] at hs
    rfl
  · cases u <;> simp [descOf, ikOf] at hk
    subst hk; rfl
  · simp only [descOf, offOf] at ho
    split at ho
    · rename_i fields
      rw [List.getElem?_map] at ho
      obtain ⟨fld, hf, hq⟩ := Option.map_eq_some_iff.1 ho
      obtain ⟨j, hj, hq⟩ := Option.bind_eq_some_iff.1 hq
      split at hq
      · cases hq
      · rename_i hne
        cases hq
        exact ⟨fields, fld, hu, by simpa using hf, rfl, j, hj, hne⟩
    · simp at ho
  · simp only [descOf, partsOf] at hp ⊢
    split at hp
    · rename_i fields
      cases hm : (fields.toList.mapM fun f => (P.info? f.type).map fun i => (f.offset, i.size)) with
      | none => rw [hm] at hp; exact absurd rfl hp
      | some l => exact ⟨i, z, fields, hi, hz, hu, by rw [hm]; rfl, fun G => ofCells_ok G _ hone⟩
    · exact absurd rfl hp
theorem tabY_ok (P : Program) : (tabY P).Ok P := fun t d h => tabOf_ok P t d h
end Go.Den
namespace Go.Den
open Go.RowKit
theorem Ghost.but_le (G : Ghost) (Y : List Nat) : (∀ b i v, (G.but Y).prot b i = some v → G.prot b i = some v) := by
  intro b i v h
  unfold Ghost.but at h
  simp only [] at h
  split at h
  · cases h
  · exact h
theorem Ghost.but_none (G : Ghost) (Y : List Nat) (b i : Nat) (h : ¬ ∃ t c, t ∈ Y ∧ G.hdr t = some (b, c)) : (G.but Y).prot b i = G.prot b i := by
  unfold Ghost.but
  simp only []
  exact if_neg h
section
variable {P : Program} {T : Tab} {w0 : World} {A : Nat → Prop} {E : Ghost} {n : Nat}
theorem clear_ok {S : St} {G : Ghost} {w : World} (hW : WR w0 A S G w) {Y : List Nat} (hY : ∀ t, t ∈ Y → t ∈ S.young ∧ (S.tok t).isSome = true) {x : AL} {v : Value} (r : RepL G x v) : x.clear S Y = true → RepL (G.but Y) x v := by
  induction r with
  | int k n => exact fun _ => .int k n
  | bool b => exact fun _ => .bool b
  | str s => exact fun _ => .str s
  | nilsl => exact fun _ => .nilsl
  | undef v h => exact fun _ => .undef v h
  | @sl tok len cap b o xs f hcp hp hx ht ih =>
    intro hc
    unfold AL.clear at hc ih
    rw [List.all_eq_true] at hc
    have hin : ∀ (i : Nat) x, xs[i]? = some x → RepL (G.but Y) x (f i) := fun i x hxi => ih i x hxi (List.all_eq_true.2 fun tk htk => by
      have h1 := hc tk htk
      cases tok with
      | none => simp [AL.clr] at h1
      | some u =>
        rw [AL.clr, Bool.and_eq_true] at h1
        exact clrs_mem h1.2 x (List.mem_of_getElem? hxi))
    refine .sl f hcp (fun i hi => ?_) hin ht
    rw [G.but_none Y b _]
    · exact hp i hi
    · rintro ⟨t, c, htY, hh⟩
      have h1 := hc t htY
      cases tok with
      | none => simp [AL.clr] at h1
      | some u =>
        rw [AL.clr, Bool.and_eq_true, Bool.and_eq_true, Bool.not_eq_true'] at h1
        obtain ⟨⟨hne, hu⟩, _⟩ := h1
        have hne := Nat.ne_of_beq_eq_false hne
        unfold St.has at hu
        rw [Bool.or_eq_true] at hu
        obtain ⟨y2, hy2⟩ := Option.isSome_iff_exists.1 (hY t htY).2
        rcases hu with hu | hu
        · obtain ⟨y1, hy1⟩ := Option.isSome_iff_exists.1 hu
          exact hne (hW.rows u t y1 y2 b cap c hy1 hy2 (ht u rfl).2 hh)
        · have h1 := hW.oldt.2 u b cap (Nat.le_of_ble_eq_true hu) (ht u rfl).2
          obtain ⟨m, e, s⟩ := y2
          obtain ⟨b2, _, _, h2, h3, _⟩ := hW.tok t m e s hy2
          rw [hh] at h2
          cases h2
          omega
theorem keepL_ok {S : St} {G : Ghost} {w : World} (hW : WR w0 A S G w) {Y : List Nat} (hY : ∀ t, t ∈ Y → t ∈ S.young ∧ (S.tok t).isSome = true) {x : AL} {v : Value} (r : RepL G x v) : RepL (G.but Y) (x.keep S Y) v := by
  unfold AL.keep
  split
  · rename_i hc
    exact clear_ok hW hY r hc
  · exact .undef v r.oneCell
theorem keepV_ok {S : St} {G : Ghost} {w : World} (hW : WR w0 A S G w) {Y : List Nat} (hY : ∀ t, t ∈ Y → t ∈ S.young ∧ (S.tok t).isSome = true) {x : AV} {v : Value} (r : RepV G x v) : RepV (G.but Y) (x.keep S Y) v := by
  cases r with
  | one h => exact .one (keepL_ok hW hY h)
  | agg h =>
    refine .agg ⟨by simpa using h.1, fun i x v hx hv => ?_⟩
    rw [List.getElem?_map] at hx
    obtain ⟨y, hy, rfl⟩ := Option.map_eq_some_iff.1 hx
    exact keepL_ok hW hY (h.2 i y v hy hv)
  | ptr h => exact .ptr h
  | nilp => exact .nilp
  | _ => exact .junk _
def Fr (n : Nat) (w0 : World) (A : Nat → Prop) (E : Ghost) (ρ : Rho) (S : St) (H : Ghost) (a0 a : Act) (w : World) : Prop := E.Le H ∧ EnvR H (EV n ρ) a.tmps ∧ a.defers = a0.defers ∧ WR w0 A S H w
theorem Fr.trans {H J : Ghost} {ρ ρ' : Rho} {S S' : St} {a a1 a2 : Act} {w w' : World} (h : Fr n w0 A E ρ S H a a1 w) (k : Fr n w0 A E ρ' S' J a1 a2 w') : Fr n w0 A E ρ' S' J a a2 w' :=
  ⟨k.1, k.2.1, k.2.2.1.trans h.2.2.1, k.2.2.2⟩
theorem EnvR.keep {S : St} {G : Ghost} {w : World} (hW : WR w0 A S G w) {Y : List Nat} (hY : ∀ t, t ∈ Y → t ∈ S.young ∧ (S.tok t).isSome = true) {ρ : Rho} {tmps : Array Value} (h : EnvR G (EV n ρ) tmps) : EnvR (G.but Y) (EV n fun i => (ρ i).keep S Y) tmps := by
  refine ⟨by rw [EV_len, ← h.len, EV_len], fun i x v hx hv => ?_⟩
  rw [EV_get] at hx
  split at hx
  · rename_i hi
    cases hx
    exact keepV_ok hW hY (h.rep i (ρ i) v (by rw [EV_get, if_pos hi]) hv)
  · cases hx
theorem dOne_ok (hT : T.Ok P) (hA : T.own = true → ∀ b i, A b → E.prot b i = none) {ops : Array Oper} {o : Oper} {ρ : Rho} {S : St} {K : Rho → St → Prop} {G : Ghost} {a : Act} {w : World} {K' : Act → World → Prop} {Q : Exit → Act → World → Prop}
    (h : dOne P w0 T n ops o ρ S K) (hG : E.Le G) (hE : EnvR G (EV n ρ) a.tmps) (hW : WR w0 A S G w)
    (k : ∀ ρ' S' H a' w', K ρ' S' → Fr n w0 A E ρ' S' H a a' w' → K' a' w') :
    if Region.wanted o (yielded ops a.tmps) = true then o.wp P a w K' Q ∨ (o.asks P a w ∧ LetsOut Q) else K' (a.put o.dst undef) w := by
  unfold dOne at h
  split at h
  · rename_i hw
    rw [dWant_ok hE hw, if_pos rfl]
    refine .inl ?_
    unfold Oper.wp
    generalize hop : dOper T (EV n ρ) S o.op = r at h
    cases r with
    | none => exact h.elim
    | some r =>
      have hok := dOper_ok hT hW hE hop
      cases r with
      | val v S1 =>
        simp only [dRes] at h hok
        obtain ⟨H, w', hle, hw', hrun⟩ := hok
        rcases hrun with ⟨vr, hv, hrun⟩ | ⟨rfl, hrun⟩
        · rw [hrun, Oper.upon_value]
          exact k _ _ H _ _ h ⟨hG.trans hle, by rw [← EV_put]; exact (hE.mono hle).put' o.dst hv, put_defers _ _ _, hw'⟩
        · rw [hrun, Oper.upon_skip]
          exact k _ _ H _ _ h ⟨hG.trans hle, by rw [← EV_put]; exact (hE.mono hle).put' o.dst (.junk _), put_defers _ _ _, hw'⟩
      | call f args =>
        simp only [dRes] at h hok
        obtain ⟨vs, hra, hrun⟩ := hok
        rcases h with ⟨hcb, hcalls⟩ | ⟨ho, Y, hY, hcb, hcalls⟩
        · rw [hrun hcb, Oper.upon_enter]
          refine (hcalls A G w vs hW hra).mono ?_
          rintro e w' ⟨v, S1, vr, H, rfl, hle, hv, hw', hk⟩
          exact k _ _ H _ _ hk ⟨hG.trans hle, by rw [← EV_put]; exact (hE.mono hle).put' o.dst hv, put_defers _ _ _, hw'⟩
        · rw [hrun hcb, Oper.upon_enter]
          refine (hcalls A G w vs hW hra).mono ?_
          rintro e w' ⟨v, S1, vr, H, rfl, hle, hv, hw', hk⟩
          refine k _ _ H _ _ hk ⟨⟨fun b i u hu => hle.prot b i u ?_, fun t x hx => hle.hdr t x (hG.hdr t x hx), fun i b hb => hle.box i b (hG.box i b hb), hle.base.trans hG.base⟩, by rw [← EV_put]; exact ((hE.keep hW hY).mono hle).put' o.dst hv, put_defers _ _ _, hw'⟩
          rw [G.but_none Y b i]
          · exact hG.prot b i u hu
          · rintro ⟨t, c, ht, hh⟩
            rw [hA ho b i (hW.own t b c (hY t ht).1 hh)] at hu
            cases hu
  · rename_i hw
    rw [dWant_ok hE hw, if_neg (by simp)]
    exact k _ _ G _ _ h ⟨hG, by rw [← EV_put]; exact hE.put' o.dst (.nought _), put_defers _ _ _, hW⟩
  · exact h.elim
theorem dOneY_ok (hT : T.Ok P) (hA : T.own = true → ∀ b i, A b → E.prot b i = none) {ops : Array Oper} {o : Oper} {ρ : Rho} {S : St} {K : Rho → St → Prop} {G : Ghost} {a : Act} {w : World} {K' : Act → World → Prop} {Q : Exit → Act → World → Prop}
    (h : dOneY P w0 T n ops o ρ S K) (hG : E.Le G) (hE : EnvR G (EV n ρ) a.tmps) (hW : WR w0 A S G w)
    (k : ∀ ρ' S' H a' w', K ρ' S' → Fr n w0 A E ρ' S' H a a' w' → K' a' w') :
    if Region.wanted o (yielded ops a.tmps) = true then o.wp P a w K' Q ∨ (o.asks P a w ∧ LetsOut Q) else K' (a.put o.dst undef) w := by
  rcases h with h | ⟨ho, hw, h⟩
  · exact dOne_ok hT hA h hG hE hW k
  · rw [dWant_ok hE hw, if_pos rfl]
    exact .inl (h A E G a w _ _ (hA ho) hG hE hW (fun ρ' S' H a' w' hk h1 h2 h3 h4 => k ρ' S' H a' w' hk ⟨h1, h2, h3, h4⟩))
theorem dList_ok (hT : T.Ok P) (hA : T.own = true → ∀ b i, A b → E.prot b i = none) {ops : Array Oper} {Q : Exit → Act → World → Prop} : ∀ (l : List Oper) (i : Nat) (ρ : Rho) (S : St) (K : Rho → St → Prop), ops.toList.drop i = l → dList P w0 T n ops l ρ S K →
    ∀ (G : Ghost) (a : Act) (w : World), E.Le G → EnvR G (EV n ρ) a.tmps → WR w0 A S G w → (∀ ρ' S' H a' w', K ρ' S' → Fr n w0 A E ρ' S' H a a' w' → Q .normal a' w') → wpOps P ops Q (List.range' i (ops.size - i)) a w
  | [], i, ρ, S, K, hl, h, G, a, w, hG, hE, hW, k => by
    have : ops.size ≤ i := by simpa using hl
    rw [show ops.size - i = 0 by omega]
    exact k ρ S G a w h ⟨hG, hE, rfl, hW⟩
  | o :: r, i, ρ, S, K, hl, h, G, a, w, hG, hE, hW, k => by
    have hi : i < ops.size := by
      apply Nat.lt_of_not_le
      intro hle
      rw [List.drop_eq_nil_of_le (by simpa using hle)] at hl
      cases hl
    have ho : ops[i]? = some o := by
      have : (ops.toList.drop i)[0]? = some o := by rw [hl]; rfl
      rw [List.getElem?_drop] at this
      simpa using this
    have hr : ops.toList.drop (i + 1) = r := by
      rw [← List.drop_drop, hl]
      rfl
    rw [show ops.size - i = (ops.size - (i + 1)) + 1 by omega, List.range'_succ, wpOps_cons]
    unfold wpOp
    rw [ho]
    simp only []
    refine dOneY_ok hT hA h hG hE hW (fun ρ' S' H a' w' hk hf => ?_)
    exact dList_ok hT hA r (i + 1) ρ' S' K hr hk H a' w' hf.1 hf.2.1 hf.2.2.2 (fun ρ2 S2 H2 a2 w2 hk2 hf2 => k ρ2 S2 H2 a2 w2 hk2 (hf.trans hf2))
theorem still_ok (hT : T.Ok P) {G : Ghost} {env : List AV} {a : Act} (hE : EnvR G env a.tmps) {S : St} {o : Oper} {res : Res} (hs : still o.op = true) (h : dOper T env S o.op = some res) :
    ∃ v vr, res = .val v S ∧ RepV G v vr ∧ ∀ w, (execOp a.eval o).run P w = .ok (.value vr) w := by
  generalize hop : o.op = op at h hs
  by_cases hcall : ∃ c, op = .call c
  · obtain ⟨c, rfl⟩ := hcall
    have hcl : c.callee = .builtin .len := by
      simp only [still] at hs
      split at hs
      · assumption
      · cases hs
    have h : dCallee T env S c = some res := h
    unfold dCallee at h
    rw [hcl] at h
    simp only [] at h
    split at h
    · rename_i x t hax hat
      obtain ⟨x', hx, h⟩ := Option.bind_eq_some_iff.1 h
      obtain ⟨v, hv, he⟩ := Option.map_eq_some_iff.1 h
      subst he
      obtain ⟨vr, h2, h4⟩ := dLen_ok (ty := o.type) hT hv (ev1_ok hE hx)
      have e1 : c.args = #[x] := by apply Array.ext'; simpa using hax
      have e2 : c.argTypes = #[t] := by apply Array.ext'; simpa using hat
      exact ⟨_, vr, rfl, .one h2, fun w => by simp [execOp, hop, resolve, hcl, invoke, builtin, e1, e2, h4 w]⟩
    · cases h
  have h' : (dOp T env S op).map (fun r => Res.val r.1 r.2) = some res := by
    cases op <;> first | exact h | (exfalso; exact hcall ⟨_, rfl⟩) | (simp [still] at hs)
  obtain ⟨⟨v, S1⟩, hv, rfl⟩ := Option.map_eq_some_iff.1 h'
  clear h h'
  unfold dOp at hv
  split at hv
  case h_1 x =>
    obtain ⟨v', hx, he⟩ := Option.map_eq_some_iff.1 hv
    cases he
    exact ⟨_, _, rfl, ev_ok hE hx, fun w => by simp [execOp, hop]⟩
  case h_2 x =>
    obtain ⟨v', hx, he⟩ := Option.map_eq_some_iff.1 hv
    cases he
    exact ⟨_, _, rfl, ev_ok hE hx, fun w => by simp [execOp, hop]⟩
  case h_3 c x y =>
    obtain ⟨t, ht, h⟩ := Option.bind_eq_some_iff.1 hv
    have hc := ev1_ok hE ht
    split at h
    · rename_i t
      obtain ⟨v', hv', he⟩ := Option.map_eq_some_iff.1 h
      cases he
      have hcv : a.eval c = .bool t := by generalize a.eval c = q at hc; cases hc; rfl
      cases t with
      | true => exact ⟨_, _, rfl, ev_ok hE (by simpa using hv'), fun w => by simp [execOp, hop, hcv, asBool]⟩
      | false => exact ⟨_, _, rfl, ev_ok hE (by simpa using hv'), fun w => by simp [execOp, hop, hcv, asBool]⟩
    · cases h
  case h_6 t ps =>
    obtain ⟨vs, hvs, h⟩ := Option.bind_eq_some_iff.1 hv
    obtain ⟨r, hr, he⟩ := Option.map_eq_some_iff.1 h
    cases he
    have hp := evParts_ok hE ps.toList vs hvs
    obtain ⟨vr, h2, h4⟩ := dBuild_ok (G := G) hT hr (ps := ps.map fun p => (p.1, a.eval p.2)) (by simpa using hp)
    exact ⟨_, vr, rfl, h2, fun w => by simp [execOp, hop, h4 w]⟩
  case h_9 op xt x y yt =>
    obtain ⟨x', hx, h⟩ := Option.bind_eq_some_iff.1 hv
    obtain ⟨y', hy, h⟩ := Option.bind_eq_some_iff.1 h
    obtain ⟨r, hr, he⟩ := Option.map_eq_some_iff.1 h
    cases he
    obtain ⟨vr, h2, h4⟩ := dBin2_ok hT x y hr (ev1_ok hE hx) (ev1_ok hE hy)
    refine ⟨_, vr, rfl, .one h2, fun w => ?_⟩
    have := h4 w
    simp only [execOp, hop, Sem.run_bind] at this ⊢
    rw [this]
    rfl
  case h_10 op xt x =>
    obtain ⟨x', hx, h⟩ := Option.bind_eq_some_iff.1 hv
    obtain ⟨r, hr, he⟩ := Option.map_eq_some_iff.1 h
    cases he
    obtain ⟨vr, h2, h4⟩ := dUn_ok (P := P) hr (ev1_ok hE hx)
    exact ⟨_, vr, rfl, .one h2, fun w => by simp [execOp, hop, h4 w]⟩
  case h_11 t p f =>
    obtain ⟨p', hp, h⟩ := Option.bind_eq_some_iff.1 hv
    obtain ⟨r, hr, he⟩ := Option.map_eq_some_iff.1 h
    cases he
    obtain ⟨vr, h2, h4⟩ := dField_ok hT hr (ev_ok hE hp)
    exact ⟨_, vr, rfl, h2, fun w => by simp [execOp, hop, h4 w]⟩
  case h_12 t x i =>
    obtain ⟨x', hx, h⟩ := Option.bind_eq_some_iff.1 hv
    obtain ⟨i', hi, h⟩ := Option.bind_eq_some_iff.1 h
    obtain ⟨r, hr, he⟩ := Option.map_eq_some_iff.1 h
    cases he
    obtain ⟨vr, h2, h4⟩ := dIndexAddr_ok hT hr (ev1_ok hE hx) (ev1_ok hE hi)
    exact ⟨_, vr, rfl, h2, fun w => by simp [execOp, hop, h4 w]⟩
  case h_13 t x i =>
    obtain ⟨x', hx, h⟩ := Option.bind_eq_some_iff.1 hv
    obtain ⟨i', hi, h⟩ := Option.bind_eq_some_iff.1 h
    obtain ⟨r, hr, he⟩ := Option.map_eq_some_iff.1 h
    cases he
    obtain ⟨vr, h2, h4⟩ := dIndex_ok hT hr (ev1_ok hE hx) (ev1_ok hE hi)
    exact ⟨_, vr, rfl, .one h2, fun w => by simp [execOp, hop, h4 w]⟩
  case h_14 t x lo hi =>
    obtain ⟨x', hx, h⟩ := Option.bind_eq_some_iff.1 hv
    obtain ⟨lo', hlo, h⟩ := Option.bind_eq_some_iff.1 h
    obtain ⟨hi', hhi, h⟩ := Option.bind_eq_some_iff.1 h
    obtain ⟨r, hr, he⟩ := Option.map_eq_some_iff.1 h
    cases he
    obtain ⟨vr, h2, h4⟩ := dSlice_ok hT hr (ev1_ok hE hx) (evO_ok hE hlo) (evO_ok hE hhi)
    exact ⟨_, vr, rfl, .one h2, fun w => by simp [execOp, hop, h4 w]⟩
  case h_15 x i =>
    obtain ⟨x', hx, h⟩ := Option.bind_eq_some_iff.1 hv
    obtain ⟨r, hr, he⟩ := Option.map_eq_some_iff.1 h
    cases he
    obtain ⟨vr, h2, h4⟩ := dExtract_ok (P := P) hr (ev_ok hE hx)
    exact ⟨_, vr, rfl, h2, fun w => by simp [execOp, hop, h4 w]⟩
  case h_16 x =>
    obtain ⟨x', hx, h⟩ := Option.bind_eq_some_iff.1 hv
    have hr := ev_ok hE hx
    split at h
    · rename_i i off
      cases h
      generalize hq : a.eval x = q at hr
      cases hr with
      | ptr hb => exact ⟨_, _, rfl, .ptr hb, fun w => by simp [execOp, hop, hq]⟩
    · cases h
  all_goals first | (simp [still] at hs; done) | cases hv
end
def Ghost.dropB (H : Ghost) (nb : Nat) : Ghost := { H with box := fun i => if i < nb then H.box i else none }
theorem RepL.drop {H : Ghost} (nb : Nat) {x : AL} {v : Value} (r : RepL H x v) : RepL (H.dropB nb) x v := by
  induction r with
  | int => exact .int _ _
  | bool => exact .bool _
  | str => exact .str _
  | sl f hc hp hx ht ih => exact .sl f hc hp ih ht
  | nilsl => exact .nilsl
  | undef v h => exact .undef v h
theorem RepC.dropG {H : Ghost} (nb : Nat) {xs : List AL} {vs : List Value} (r : RepC H xs vs) : RepC (H.dropB nb) xs vs := ⟨r.1, fun i x v hx hv => (r.2 i x v hx hv).drop nb⟩
theorem RepV.cutP {H : Ghost} (k : Nat) {x : AV} {v : Value} (r : RepV H x v) : RepV (H.dropB k) (x.cutP k) v := by
  cases r with
  | one h => exact .one (h.drop k)
  | agg h => exact .agg (h.dropG k)
  | tup f h => exact .junk _
  | junk v => exact .junk v
  | @ptr i off b h =>
    show RepV (H.dropB k) (if i < k then AV.ptr i off else AV.junk) _
    by_cases hi : i < k
    · rw [if_pos hi]
      refine .ptr ?_
      show (if i < k then H.box i else none) = some b
      rw [if_pos hi]
      exact h
    · rw [if_neg hi]
      exact .junk _
  | el f hp hx => exact .el f hp (fun i x e => (hx i x e).drop k)
  | nilp => exact .nilp
  | spot h => exact .spot h
  | cut h ho => exact .cut h ho
  | @clo f caps g hx =>
    show RepV (H.dropB k) (match capsIn k caps with | true => AV.clo f caps | false => AV.junk) _
    cases hc : capsIn k caps with
    | false => exact .junk _
    | true =>
      refine .clo f g (fun i x e => ?_)
      have key : ∀ (l : List AV), capsIn k l = true → ∀ y, y ∈ l → ∃ i o, y = .ptr i o ∧ i < k := by
        intro l
        induction l with
        | nil => intro _ y hy; cases hy
        | cons a l ih =>
          intro hl y hy
          cases a with
          | ptr i o =>
            simp only [capsIn, Bool.and_eq_true] at hl
            rcases List.mem_cons.1 hy with rfl | hy
            · exact ⟨i, o, rfl, Nat.le_of_ble_eq_true hl.1⟩
            · exact ih hl.2 y hy
          | _ => simp [capsIn] at hl
      obtain ⟨j, o, rfl, hj⟩ := key caps hc x (List.mem_of_getElem? e)
      have h2 := hx i _ e
      generalize g i = q at h2
      cases h2 with
      | ptr hb =>
        refine .ptr ?_
        show (if j < k then H.box j else none) = _
        rw [if_pos hj]
        exact hb
theorem EnvR.cutP {n : Nat} {H : Ghost} (k : Nat) {ρ : Rho} {tmps : Array Value} (h : EnvR H (EV n ρ) tmps) : EnvR (H.dropB k) (EV n fun i => (ρ i).cutP k) tmps := by
  refine ⟨by rw [EV_len, ← h.len, EV_len], fun i x v hx hv => ?_⟩
  rw [EV_get] at hx
  split at hx
  · rename_i hi
    cases hx
    exact (h.rep i (ρ i) v (by rw [EV_get, if_pos hi]) hv).cutP k
  · cases hx
theorem WR.takeB {w0 : World} {A : Nat → Prop} {S : St} {H : Ghost} {w : World} (h : WR w0 A S H w) (k : Nat) : WR w0 A (S.takeB k) (H.dropB k) w := by
  have bx : ∀ i b, (H.dropB k).box i = some b → H.box i = some b := by
    intro i b hb
    have hb' : (if i < k then H.box i else none) = some b := hb
    split at hb'
    · exact hb'
    · cases hb'
  refine ⟨h.prot, h.tok, h.later, h.hlt, fun i t cs hi => ?_, fun i hi => ?_, fun i j b hi hj => h.boxes i j b (bx i b hi) (bx j b hj), h.rows, fun t x b c i ht hh hb => h.apart t x b c i ht hh (bx i b hb), h.size, h.below, h.own, h.up, h.ylt, h.hall, h.basep, h.oldt⟩
  · have hi' : (S.boxes.take k)[i]? = some (t, cs) := hi
    rw [List.getElem?_take] at hi'
    split at hi'
    · rename_i hk
      obtain ⟨b, vs, h1, h2, h3, h4, h5⟩ := h.box i t cs hi'
      exact ⟨b, vs, by show (if i < k then H.box i else none) = some b; rw [if_pos hk]; exact h1, h2, h3, h4.dropG _, h5⟩
    · cases hi'
  · show (if i < k then H.box i else none) = none
    split
    · have hl : (S.boxes.take k).length ≤ i := hi
      rw [List.length_take] at hl
      exact h.more i (by omega)
    · rfl
end Go.Den
namespace Go.Den
open Go.RowKit
def spl : List AL → Nat → List AL → List AL
  | [], _, _ => []
  | x :: xs, 0, [] => x :: xs
  | _ :: xs, 0, v :: vs => v :: spl xs 0 vs
  | x :: xs, off + 1, vs => x :: spl xs off vs
theorem spl_len : ∀ (xs : List AL) (off : Nat) (vs : List AL), (spl xs off vs).length = xs.length
  | [], _, _ => by simp [spl]
  | x :: xs, 0, [] => by simp [spl]
  | _ :: xs, 0, v :: vs => by simp [spl, spl_len xs 0 vs]
  | x :: xs, off + 1, vs => by simp [spl, spl_len xs off vs]
theorem spl_get : ∀ (xs : List AL) (off : Nat) (vs : List AL) (i : Nat), i < xs.length → (spl xs off vs)[i]? = if off ≤ i ∧ i < off + vs.length then vs[i - off]? else xs[i]?
  | [], _, _, i, h => by simp at h
  | x :: xs, 0, [], i, h => by rw [spl, if_neg (by simp)]
  | x :: xs, 0, v :: vs, i, h => by
    cases i with
    | zero => simp [spl]
    | succ i =>
      rw [spl, List.getElem?_cons_succ, spl_get xs 0 vs i (by simpa using h)]
      by_cases hi : i < vs.length
      · rw [if_pos (by omega), if_pos (by simp; omega)]
        simp
      · rw [if_neg (by omega), if_neg (by simp; omega), List.getElem?_cons_succ]
  | x :: xs, off + 1, vs, i, h => by
    cases i with
    | zero => rw [spl, if_neg (by omega)]; rfl
    | succ i =>
      rw [spl, List.getElem?_cons_succ, spl_get xs off vs i (by simpa using h)]
      by_cases hi : off ≤ i ∧ i < off + vs.length
      · rw [if_pos hi, if_pos (by omega), show i + 1 - (off + 1) = i - off by omega]
      · rw [if_neg hi, if_neg (by omega), List.getElem?_cons_succ]
def AL.put (p : Nat → Bool) (tk off : Nat) (vs : List AL) : AL → AL
  | .int k n => .int k n
  | .bool b => .bool b
  | .str s => .str s
  | .nilsl => .nilsl
  | .undef => .undef
  | .sl none _ _ => .undef
  | .sl (some u) len xs => if u = tk then (if clrs p tk xs = true then .sl (some tk) len (spl xs off vs) else .undef) else (if (AL.sl (some u) len xs).clr p tk = true then .sl (some u) len xs else .undef)
def AV.isPtr : AV → Bool
  | .ptr _ _ => true
  | _ => false
def AV.put (p : Nat → Bool) (tk off : Nat) (vs : List AL) : AV → AV
  | .one x => .one (x.put p tk off vs)
  | .agg xs => .agg (xs.map (AL.put p tk off vs))
  | .ptr i o => .ptr i o
  | .nilp => .nilp
  | .spot t o => .spot t o
  | .cut t o len => .cut t o len
  | .clo f caps => match caps.all AV.isPtr with | true => .clo f caps | false => .junk
  | _ => .junk
def putB (p : Nat → Bool) (tk off : Nat) (vs : List AL) (L : List (TypeId × List AL)) : List (TypeId × List AL) := L.map fun b => (b.1, b.2.map (AL.put p tk off vs))
def St.put (S : St) (tk off : Nat) (vs : List AL) : St := { S with boxes := putB S.has tk off vs S.boxes }
section
variable {P : Program} {T : Tab} {w0 : World} {A : Nat → Prop} {S : St} {G : Ghost} {w : World}
theorem has_apart (hW : WR w0 A S G w) {tk m e s b c u b' c' : Nat} (ht : S.tok tk = some (m, e, s)) (hh : G.hdr tk = some (b, c)) (hu : S.has u = true) (hne : u ≠ tk) (hh' : G.hdr u = some (b', c')) : b' ≠ b := by
  rintro rfl
  unfold St.has at hu
  rw [Bool.or_eq_true] at hu
  rcases hu with hu | hu
  · obtain ⟨y, hy⟩ := Option.isSome_iff_exists.1 hu
    exact hne (hW.rows u tk y _ b' c' c hy ht hh' hh)
  · have h1 := hW.oldt.2 u b' c' (Nat.le_of_ble_eq_true hu) hh'
    obtain ⟨b2, _, _, h2, h3, _⟩ := hW.tok tk m e s ht
    rw [hh] at h2
    cases h2
    omega
theorem clr_ok (hW : WR w0 A S G w) {tk m e s b c : Nat} (ht : S.tok tk = some (m, e, s)) (hh : G.hdr tk = some (b, c)) {x : AL} {v : Value} (r : RepL G x v) : x.clr S.has tk = true → RepL (G.but [tk]) x v := by
  induction r with
  | int k n => exact fun _ => .int k n
  | bool b => exact fun _ => .bool b
  | str s => exact fun _ => .str s
  | nilsl => exact fun _ => .nilsl
  | undef v h => exact fun _ => .undef v h
  | @sl tok len cap bb o xs f hcp hp hx htk ih =>
    intro hc
    cases tok with
    | none => simp [AL.clr] at hc
    | some u =>
      rw [AL.clr, Bool.and_eq_true, Bool.and_eq_true, Bool.not_eq_true'] at hc
      obtain ⟨⟨h1, h2⟩, h3⟩ := hc
      have hne : u ≠ tk := Nat.ne_of_beq_eq_false h1
      have hb := has_apart hW ht hh h2 hne (htk u rfl).2
      refine .sl f hcp (fun i hi => ?_) (fun i x hxi => ih i x hxi (clrs_mem h3 x (List.mem_of_getElem? hxi))) htk
      rw [G.but_none [tk] bb _]
      · exact hp i hi
      · rintro ⟨t, c', ht', hh'⟩
        rw [List.mem_singleton.1 ht'] at hh'
        rw [hh] at hh'
        cases hh'
        exact hb rfl
theorem WR.put (hW : WR w0 A S G w) {tk off m e s b c : Nat} (ht : S.tok tk = some (m, e, s)) {vs : List AL} {us : List Value} (hr : RepC G vs us) (hpl : clrs S.has tk vs = true) (hoff : off + vs.length ≤ m) (hh : G.hdr tk = some (b, c)) :
    ∃ H : Ghost, (G.but [tk]).Le H ∧ WR w0 A (S.put tk off vs) H (w.setCells b off us) ∧ ∀ x v, RepL G x v → RepL H (x.put S.has tk off vs) v := by
  obtain ⟨b', cap, cur, h1, h2, h3, h4, h5, h6, h7, h8⟩ := hW.tok tk m e s ht
  rw [hh] at h1
  cases h1
  have hlen := hr.1
  obtain ⟨cur', k1, k2, k3, k4, k5⟩ := setCells_block b us off w cur e h3 (by omega)
  have hcs : cur'.size = cur.size := by
    have := congrArg List.length k2
    simp at this
    omega
  let H : Ghost := { G with prot := fun b' i => if b' = b ∧ off ≤ i ∧ i < off + us.length then us[i - off]? else G.prot b' i }
  have hbut : ∀ b2 i v, (G.but [tk]).prot b2 i = some v → b2 ≠ b := by
    rintro b2 i v hv rfl
    unfold Ghost.but at hv
    simp only [] at hv
    rw [if_pos ⟨tk, c, by simp, hh⟩] at hv
    cases hv
  have hle : (G.but [tk]).Le H := by
    refine ⟨fun b2 i v hv => ?_, fun _ _ h => h, fun _ _ h => h, rfl⟩
    show (if b2 = b ∧ off ≤ i ∧ i < off + us.length then us[i - off]? else G.prot b2 i) = some v
    rw [if_neg (fun h => hbut b2 i v hv h.1), G.but_le [tk] b2 i v hv]
  have hcell : ∀ i, (w.setCells b off us).cell? ⟨b, i, none⟩ = if off ≤ i ∧ i < off + us.length then us[i - off]? else w.cell? ⟨b, i, none⟩ := by
    intro i
    rw [cell_of_row _ b i cur' e (0, 0) k1, cell_of_row _ b i cur e (0, 0) h3]
    have hcur : cur' = (cur.toList.take off ++ us ++ cur.toList.drop (off + us.length)).toArray := by
      rw [← k2]
    rw [hcur, splice_get cur off us (by omega)]
    by_cases hi : off ≤ i ∧ i < off + us.length
    · rw [if_neg (by omega), if_pos hi.2, if_pos hi]
    · rw [if_neg hi]
      split
      · rfl
      · rw [if_neg (by omega)]
  have cl : ∀ x v, x.clr S.has tk = true → RepL G x v → RepL H x v := fun x v hc r => (clr_ok hW ht hh r hc).mono hle
  have rep : ∀ x v, RepL G x v → RepL H (x.put S.has tk off vs) v := by
    intro x v r
    cases r with
    | int k n => exact .int k n
    | bool b => exact .bool b
    | str s => exact .str s
    | nilsl => exact .nilsl
    | undef v h => exact .undef v h
    | @sl tok len cap2 b2 o2 xs f hc2 hp2 hx2 ht2 =>
      have un : RepL H .undef (.slice (some ⟨b2, o2, none⟩) len cap2) := .undef _ rfl
      cases tok with
      | none => exact un
      | some u =>
        unfold AL.put
        by_cases hu : u = tk
        · subst hu
          simp only [if_true]
          by_cases hcl : clrs S.has u xs = true
          · rw [if_pos hcl]
            obtain ⟨rfl, hh2⟩ := ht2 u rfl
            rw [hh] at hh2
            cases hh2
            refine .sl (fun i => if off ≤ i ∧ i < off + us.length then us[i - off]?.getD undef else f i) hc2 (fun i hi => ?_) (fun i y hy => ?_) (fun t et => ⟨rfl, (ht2 t et).2⟩)
            · rw [spl_len] at hi
              rw [Nat.zero_add]
              show (if b = b ∧ off ≤ i ∧ i < off + us.length then us[i - off]? else G.prot b i) = _
              by_cases hi2 : off ≤ i ∧ i < off + us.length
              · rw [if_pos ⟨rfl, hi2⟩, if_pos hi2, List.getElem?_eq_getElem (by omega)]
                rfl
              · rw [if_neg (fun h => hi2 h.2), if_neg hi2]
                have := hp2 i hi
                rwa [Nat.zero_add] at this
            · have hi := (List.getElem?_eq_some_iff.1 hy).1
              rw [spl_len] at hi
              rw [spl_get _ _ _ _ hi] at hy
              by_cases hi2 : off ≤ i ∧ i < off + us.length
              · rw [if_pos (by omega)] at hy
                rw [if_pos hi2, List.getElem?_eq_getElem (by omega)]
                exact cl y _ (clrs_mem hpl y (List.mem_of_getElem? hy)) (hr.2 (i - off) y _ hy (List.getElem?_eq_getElem (by omega)))
              · rw [if_neg (by omega)] at hy
                rw [if_neg hi2]
                exact cl y _ (clrs_mem hcl y (List.mem_of_getElem? hy)) (hx2 i y hy)
          · rw [if_neg hcl]
            exact un
        · simp only [if_neg hu]
          by_cases hcl : (AL.sl (some u) len xs).clr S.has tk = true
          · rw [if_pos hcl]
            exact cl _ _ hcl (.sl f hc2 hp2 hx2 ht2)
          · rw [if_neg hcl]
            exact un
  refine ⟨H, hle, ⟨fun b2 i v hv => ?_, fun u m2 e2 s2 hu => ?_, hW.later, fun t b2 c2 h => by rw [k4]; exact hW.hlt t b2 c2 h, fun i t cs hi => ?_, fun i hi => hW.more i (by simpa [St.put, putB] using hi), hW.boxes, hW.rows, hW.apart, by rw [k4]; exact hW.size, hW.below.trans (k5.mono h2), hW.own, fun b2 hb2 => hW.up b2 (by rw [k4] at hb2; exact hb2), hW.ylt, hW.hall, fun b2 i hb2 => (if_neg (fun h => by omega) : (if b2 = b ∧ off ≤ i ∧ i < off + us.length then us[i - off]? else G.prot b2 i) = G.prot b2 i).trans (hW.basep b2 i hb2), hW.oldt⟩, rep⟩
  · have hv' : (if b2 = b ∧ off ≤ i ∧ i < off + us.length then us[i - off]? else G.prot b2 i) = some v := hv
    by_cases hb2 : b2 = b
    · subst hb2
      rw [hcell]
      by_cases hi : off ≤ i ∧ i < off + us.length
      · rw [if_pos ⟨rfl, hi⟩] at hv'
        rw [if_pos hi]
        exact hv'
      · rw [if_neg (fun h => hi h.2)] at hv'
        rw [if_neg hi]
        exact hW.prot _ _ _ hv'
    · rw [if_neg (fun h => hb2 h.1)] at hv'
      rw [World.cell?_of_block (k3 b2 hb2)]
      exact hW.prot _ _ _ hv'
  · replace hu : S.tok u = some (m2, e2, s2) := hu
    obtain ⟨b2, cap2, cur2, g1, g2, g3, g4, g5, g6, g7, g8⟩ := hW.tok u m2 e2 s2 hu
    by_cases hb2 : b2 = b
    · subst hb2
      obtain rfl := hW.rows u tk _ _ _ _ _ hu ht g1 hh
      rw [ht] at hu
      cases hu
      rw [hh] at g1
      cases g1
      refine ⟨b2, c, cur', hh, h2, k1, by omega, h5, h6, fun i hi => ?_, fun i hi => ?_⟩
      · show (if b2 = b2 ∧ off ≤ i ∧ i < off + us.length then us[i - off]? else G.prot b2 i).isSome = true
        split
        · rename_i hi2
          rw [List.getElem?_eq_getElem (by omega)]
          rfl
        · exact h7 i hi
      · show (if b2 = b2 ∧ off ≤ i ∧ i < off + us.length then us[i - off]? else G.prot b2 i) = none
        rw [if_neg (fun h => by omega)]
        exact h8 i hi
    · refine ⟨b2, cap2, cur2, g1, g2, (k3 b2 hb2).trans g3, g4, g5, g6, fun i hi => ?_, fun i hi => ?_⟩
      · show (if b2 = b ∧ off ≤ i ∧ i < off + us.length then us[i - off]? else G.prot b2 i).isSome = true
        rw [if_neg (fun h => hb2 h.1)]
        exact g7 i hi
      · show (if b2 = b ∧ off ≤ i ∧ i < off + us.length then us[i - off]? else G.prot b2 i) = none
        rw [if_neg (fun h => hb2 h.1)]
        exact g8 i hi
  · have hi : (putB S.has tk off vs S.boxes)[i]? = some (t, cs) := hi
    unfold putB at hi
    rw [List.getElem?_map] at hi
    obtain ⟨⟨t0, cs0⟩, hi0, he0⟩ := Option.map_eq_some_iff.1 hi
    cases he0
    obtain ⟨b2, vs2, g1, g2, g3, g4, g5⟩ := hW.box i t0 cs0 hi0
    have hne : b2 ≠ b := by
      rintro rfl
      exact hW.apart tk _ _ _ i ht hh g1
    refine ⟨b2, vs2, g1, g2, (k3 b2 hne).trans g3, ⟨by simpa using g4.1, fun j x v hx hv => ?_⟩, fun j => ?_⟩
    · rw [List.getElem?_map] at hx
      obtain ⟨y, hy, rfl⟩ := Option.map_eq_some_iff.1 hx
      exact rep y v (g4.2 j y v hy hv)
    · show (if b2 = b ∧ off ≤ j ∧ j < off + us.length then us[j - off]? else G.prot b2 j) = none
      rw [if_neg (fun h => hne h.1)]
      exact g5 j
theorem RepV.put {p : Nat → Bool} {tk off : Nat} {vs : List AL} {H : Ghost} (hle : (G.but [tk]).Le H) (rep : ∀ x v, RepL G x v → RepL H (x.put p tk off vs) v) {x : AV} {v : Value} (r : RepV G x v) : RepV H (x.put p tk off vs) v := by
  cases r with
  | one h => exact .one (rep _ _ h)
  | agg h =>
    refine .agg ⟨by simpa using h.1, fun i x v hx hv => ?_⟩
    rw [List.getElem?_map] at hx
    obtain ⟨y, hy, rfl⟩ := Option.map_eq_some_iff.1 hx
    exact rep y v (h.2 i y v hy hv)
  | ptr h => exact .ptr (hle.box _ _ h)
  | nilp => exact .nilp
  | spot h => exact .spot (hle.hdr _ _ h)
  | cut h ho => exact .cut (hle.hdr _ _ h) ho
  | @clo f caps g hx =>
    show RepV H (match caps.all AV.isPtr with | true => AV.clo f caps | false => AV.junk) _
    cases hc : caps.all AV.isPtr with
    | false => exact .junk _
    | true =>
      rw [List.all_eq_true] at hc
      refine .clo f g (fun i x hxi => ?_)
      have h1 := hc x (List.mem_of_getElem? hxi)
      have h2 := hx i x hxi
      generalize g i = q at h2
      cases h2 with
      | ptr h => exact .ptr (hle.box _ _ h)
      | _ => cases h1
  | _ => exact .junk _
theorem EnvR.putV {n : Nat} {p : Nat → Bool} {tk off : Nat} {vs : List AL} {H : Ghost} (hle : (G.but [tk]).Le H) (rep : ∀ x v, RepL G x v → RepL H (x.put p tk off vs) v) {ρ : Rho} {tmps : Array Value} (h : EnvR G (EV n ρ) tmps) :
    EnvR H (EV n fun i => (ρ i).put p tk off vs) tmps := by
  refine ⟨by rw [EV_len, ← h.len, EV_len], fun i x v hx hv => ?_⟩
  rw [EV_get] at hx
  split at hx
  · rename_i hi
    cases hx
    exact (h.rep i (ρ i) v (by rw [EV_get, if_pos hi]) hv).put hle rep
  · cases hx
end
end Go.Den
namespace Go.Den
open Go.RowKit
section
variable {P : Program} {w0 : World} {T : Tab} {n : Nat}
theorem dWant_of {ops : Array Oper} {env : List AV} {o : Oper} (h : o.guard = none) : dWant ops env o = some true := by
  unfold dWant
  rw [h]
theorem SemOne.pure {ops : Array Oper} {o : Oper} {ρ : Rho} {S S' : St} {K : Rho → St → Prop} (hw : dWant ops (EV n ρ) o = some true) {v : AV} (h : K (upd ρ o.dst v) S')
    (hr : ∀ (A : Nat → Prop) (G : Ghost) (a : Act) (w : World), EnvR G (EV n ρ) a.tmps → WR w0 A S G w → ∃ H vr w', G.Le H ∧ RepV H v vr ∧ WR w0 A S' H w' ∧ (execOp a.eval o).run P w = .ok (.value vr) w') : SemOne P w0 n ops o ρ S K := by
  refine ⟨hw, fun A E G a w K' Q hA hG hE hW k => ?_⟩
  obtain ⟨H, vr, w', hle, hv, hW', hrun⟩ := hr A G a w hE hW
  unfold Oper.wp
  rw [hrun, Oper.upon_value]
  exact k _ _ H _ _ h (hG.trans hle) (by rw [← EV_put]; exact (hE.mono hle).put' o.dst hv) (put_defers _ _ _) hW'
theorem SemOne.index (hT : T.Ok P) {ops : Array Oper} {o : Oper} {ρ : Rho} {S : St} {K : Rho → St → Prop} (hw : dWant ops (EV n ρ) o = some true) {t : TypeId} {x i : Operand} (hop : o.op = .indexAddr t x i)
    {tk len : Nat} {xs : List AL} {kd : IntKind} {j : Int} (hx : ev1 (EV n ρ) x = some (.sl (some tk) len xs)) (hi : ev1 (EV n ρ) i = some (.int kd j)) {d de : D} {e : TypeId} (hd : T.desc t = some d) (he : d.elem = some e) (hde : T.desc e = some de)
    (h0 : 0 ≤ j ∧ j < len) (h : K (upd ρ o.dst (.spot tk (j.toNat * de.size))) S) : SemOne P w0 n ops o ρ S K := by
  refine SemOne.pure hw h (fun A G a w hE hW => ?_)
  have rx := ev1_ok hE hx
  have ri := ev1_ok hE hi
  obtain ⟨u, hu, _, hel, _⟩ := (hT t d hd).und
  obtain rfl := hel e he
  obtain ⟨ie, z, hie, hs, _⟩ := (hT e de hde).info
  generalize hvx : a.eval x = vx at rx
  generalize hvi : a.eval i = vi at ri
  cases rx with
  | @sl _ _ cap b oo _ f hc hp hx' ht =>
    cases ri
    obtain ⟨rfl, hh⟩ := ht tk rfl
    have run : (Instr.indexAt t (.slice (some ⟨b, 0, none⟩) len cap) (.int kd j)).run P w = .ok (.pointer (some ⟨b, j.toNat * de.size, none⟩)) w := by
      rw [run_indexAt_slice (P := P) (w := w) t _ _ _ _ _ (by rw [elem_eq hu]; exact hu), if_pos h0, elem_eq hu]
      simp [sizeOf, typeInfo, hie, hs, Addr.add_mid]
    exact ⟨G, _, w, Ghost.Le.refl G, .spot hh, hW, by simp [execOp, hop, hvx, hvi, run]⟩
theorem SemOne.cut (hT : T.Ok P) {ops : Array Oper} {o : Oper} {ρ : Rho} {S : St} {K : Rho → St → Prop} (hw : dWant ops (EV n ρ) o = some true) {t : TypeId} {x lo : Operand} (hop : o.op = .slice t x (some lo) none none)
    {tk len : Nat} {xs : List AL} {kd : IntKind} {j : Int} (hx : ev1 (EV n ρ) x = some (.sl (some tk) len xs)) (hi : ev1 (EV n ρ) lo = some (.int kd j)) {d de : D} {e : TypeId} (hd : T.desc t = some d) (he : d.elem = some e) (hde : T.desc e = some de)
    (h0 : 0 ≤ j ∧ j ≤ len) (h : K (upd ρ o.dst (.cut tk (j.toNat * de.size) (len - j.toNat))) S) : SemOne P w0 n ops o ρ S K := by
  refine SemOne.pure hw h (fun A G a w hE hW => ?_)
  have rx := ev1_ok hE hx
  have ri := ev1_ok hE hi
  obtain ⟨u, hu, _, hel, _⟩ := (hT t d hd).und
  obtain rfl := hel e he
  obtain ⟨ie, z, hie, hs, _⟩ := (hT e de hde).info
  generalize hvx : a.eval x = vx at rx
  generalize hvi : a.eval lo = vi at ri
  cases rx with
  | @sl _ _ cap b oo _ f hc hp hx' ht =>
    cases ri
    obtain ⟨rfl, hh⟩ := ht tk rfl
    have ht' : P.underlying t = some (.slice (P.elem t)) := by rw [elem_eq hu]; exact hu
    have hsz : ∀ w, (sizeOf (P.elem t)).run P w = .ok de.size w := by intro w; rw [elem_eq hu]; simp [sizeOf, typeInfo, hie, hs]
    have run : (Instr.sliceAt t (.slice (some ⟨b, 0, none⟩) len cap) (some (.int kd j)) none none).run P w = .ok (sliced (some ⟨b, 0, none⟩) j.toNat len cap de.size) w := by
      rw [run_sliceAt_slice (P := P) (w := w) t _ _ _ _ ht', run_slice_l (P := P) (w := w) t _ _ _ ht' kd j h0.1 h0.2, hsz]
      rfl
    refine ⟨G, _, w, Ghost.Le.refl G, ?_, hW, by simp [execOp, hop, hvx, hvi, run]; rfl⟩
    unfold sliced
    by_cases hcl : cap = j.toNat
    · rw [if_pos hcl]
      exact .cut hh (fun hl => by omega)
    · rw [if_neg hcl]
      show RepV G _ (.slice (some ((⟨b, 0, none⟩ : Addr).add (j.toNat * de.size))) _ _)
      rw [Addr.add_mid]
      exact .cut hh (fun _ => by omega)
theorem SemOne.front (hT : T.Ok P) {ops : Array Oper} {o : Oper} {ρ : Rho} {S : St} {K : Rho → St → Prop} (hw : dWant ops (EV n ρ) o = some true) {t : TypeId} {x hi : Operand} (hop : o.op = .slice t x none (some hi) none)
    {tk len : Nat} {xs : List AL} {kd : IntKind} {j : Int} (hx : ev1 (EV n ρ) x = some (.sl (some tk) len xs)) (hi' : ev1 (EV n ρ) hi = some (.int kd j)) {d de : D} {e : TypeId} (hd : T.desc t = some d) (he : d.elem = some e) (hde : T.desc e = some de)
    (h0 : 0 ≤ j ∧ j ≤ len) (h : K (upd ρ o.dst (.one (.sl (some tk) j.toNat (xs.take (j.toNat * de.size))))) S) : SemOne P w0 n ops o ρ S K := by
  refine SemOne.pure hw h (fun A G a w hE hW => ?_)
  have rx := ev1_ok hE hx
  have ri := ev1_ok hE hi'
  obtain ⟨u, hu, _, hel, _⟩ := (hT t d hd).und
  obtain rfl := hel e he
  obtain ⟨ie, z, hie, hs, _⟩ := (hT e de hde).info
  generalize hvx : a.eval x = vx at rx
  generalize hvi : a.eval hi = vi at ri
  cases rx with
  | @sl _ _ cap b oo _ f hc hp hx' ht =>
    cases ri
    obtain ⟨rfl, hh⟩ := ht tk rfl
    have ht' : P.underlying t = some (.slice (P.elem t)) := by rw [elem_eq hu]; exact hu
    have hsz : ∀ w, (sizeOf (P.elem t)).run P w = .ok de.size w := by intro w; rw [elem_eq hu]; simp [sizeOf, typeInfo, hie, hs]
    have run : (Instr.sliceAt t (.slice (some ⟨b, 0, none⟩) len cap) none (some (.int kd j)) none).run P w = .ok (sliced (some ⟨b, 0, none⟩) 0 j.toNat cap de.size) w := by
      rw [run_sliceAt_slice (P := P) (w := w) t _ _ _ _ ht', run_slice_h (P := P) (w := w) t _ _ _ ht' kd j h0.1 (by omega), hsz]
      rfl
    refine ⟨G, _, w, Ghost.Le.refl G, .one ?_, hW, by simp [execOp, hop, hvx, hvi, run]; rfl⟩
    have e0 : sliced (some ⟨b, 0, none⟩) 0 j.toNat cap de.size = .slice (some ⟨b, 0, none⟩) j.toNat cap := by
      unfold sliced
      split
      · rename_i hc0
        subst hc0
        simp
      · simp [Addr.add_mid]
    rw [e0]
    refine .sl f (by omega) (fun i hi => hp i (by rw [List.length_take] at hi; omega)) (fun i y hy => ?_) (fun t e => ht t e)
    rw [List.getElem?_take] at hy
    split at hy
    · exact hx' i y hy
    · cases hy
theorem SemOne.put (hT : T.Ok P) {ops : Array Oper} {o : Oper} {ρ : Rho} {S : St} {K : Rho → St → Prop} (hw : dWant ops (EV n ρ) o = some true) {t : TypeId} {p x : Operand} (hop : o.op = .store t p x) (hdst : o.dst = none)
    {tk off m e s : Nat} {v : AV} {vs : List AL} (hp : ev (EV n ρ) p = some (.spot tk off)) (hx : ev (EV n ρ) x = some v) (hv : v.flat = some vs) {d : D} (hd : T.desc t = some d) (hsz : vs.length = d.size)
    (ht : S.tok tk = some (m, e, s)) (hy : tk ∈ S.young) (hoff : off + vs.length ≤ m) (hpl : clrs S.has tk vs = true)
    (h : K (fun i => (ρ i).put S.has tk off vs) (S.put tk off vs)) : SemOne P w0 n ops o ρ S K := by
  refine ⟨hw, fun A E G a w K' Q hA hG hE hW kk => ?_⟩
  have rp := ev_ok hE hp
  have rx := ev_ok hE hx
  unfold Oper.wp
  generalize hvp : a.eval p = vp at rp
  generalize hvx : a.eval x = vx at rx
  cases rp with
  | @spot _ _ b c hh =>
    obtain ⟨hr, hcells⟩ := rx.flat hv
    obtain ⟨H, hle, hW', rep⟩ := hW.put ht hr hpl hoff hh
    obtain ⟨b', cap, cur, h1, h2, h3, h4, h5, h6, h7, h8⟩ := hW.tok tk m e s ht
    rw [hh] at h1
    cases h1
    obtain ⟨ii, z, hi, hs, _⟩ := (hT t d hd).info
    have hcell : ∀ j, w.cell? ⟨b, j, none⟩ = cur[j]? := fun j => cell_of_row w b j cur e (0, 0) h3
    have hul : vx.cells.toList.length = vs.length := hr.1.symm
    have run := run_storeCells_cells (P := P) b off vx.cells.toList 0 w (fun j hj => by rw [hcell, Nat.add_zero, Array.getElem?_eq_getElem (by omega)]; rfl) (fun j hj => by simp [World.frozen?, h3]) hr.oneCell
    simp only [Nat.add_zero] at run
    have run2 : (Instr.storeAt t (.pointer (some ⟨b, off, none⟩)) vx).run P w = .ok () (w.setCells b off vx.cells.toList) := by
      have hsize : ii.size = vx.cells.size := by rw [hs, ← hsz, ← hul]; simp
      simp [Instr.storeAt, Instr.sureAddr, storeVar, sizeOf, typeInfo, hi, hsize, run]
    rw [show (execOp a.eval o).run P w = .ok .skip (w.setCells b off vx.cells.toList) by simp [execOp, hop, hvp, hvx, run2], Oper.upon_skip, hdst]
    refine kk _ _ H _ _ h ⟨fun b2 i u hu => hle.prot b2 i u ?_, fun t x hx => hle.hdr t x (hG.hdr t x hx), fun i b hb => hle.box i b (hG.box i b hb), hle.base.trans hG.base⟩ (hE.putV hle rep) rfl hW'
    rw [G.but_none [tk] b2 i]
    · exact hG.prot b2 i u hu
    · rintro ⟨t, c, ht', hh'⟩
      rw [List.mem_singleton.1 ht'] at hh'
      rw [hA b2 i (hW.own tk b2 c hy hh')] at hu
      cases hu
theorem SemOne.clear (hT : T.Ok P) {ops : Array Oper} {o : Oper} {ρ : Rho} {S : St} {K : Rho → St → Prop} (hw : dWant ops (EV n ρ) o = some true) {t : TypeId} {x : Operand} {c0 : Call} (hop : o.op = .call c0) (hc1 : c0.callee = .builtin .clear) (hc2 : c0.args = #[x]) (hc3 : c0.argTypes = #[t]) (hdst : o.dst = none)
    {tk off len m e s : Nat} (hx : ev (EV n ρ) x = some (.cut tk off len)) {d de : D} {el : TypeId} (hd : T.desc t = some d) (he : d.elem = some el) (hde : T.desc el = some de) (hz0 : de.zero.length = de.size)
    (ht : S.tok tk = some (m, e, s)) (hy : tk ∈ S.young) (hoff : off + len * de.size ≤ m) (hpl : clrs S.has tk ((List.replicate len de.zero).flatten) = true)
    (h : K (fun i => (ρ i).put S.has tk off ((List.replicate len de.zero).flatten)) (S.put tk off ((List.replicate len de.zero).flatten))) : SemOne P w0 n ops o ρ S K := by
  refine ⟨hw, fun A E G a w K' Q hA hG hE hW kk => ?_⟩
  have rx := ev_ok hE hx
  obtain ⟨u, hu, _, hel, _⟩ := (hT t d hd).und
  obtain rfl := hel el he
  obtain ⟨ie, z, hie, hs, hby, hz, hzr⟩ := (hT el de hde).info
  have hzc : z.cells.size = de.size := by rw [← hz0, (hzr G).1]; simp
  unfold Oper.wp
  generalize hvx : a.eval x = vx at rx
  cases rx with
  | @cut _ _ b c oo _ cap hh ho =>
    -- the zeros
    have hus : RepC G ((List.replicate len de.zero).flatten) (Builtin.zeroCells z.cells len).toList := by
      refine ⟨by simp [zeroCells_size, hzc, hz0], fun i y v hy hv => ?_⟩
      have hl : i < len * de.size := by
        have := (List.getElem?_eq_some_iff.1 hv).1
        simpa [zeroCells_size, hzc] using this
      have hpos : 0 < de.size := by
        apply Nat.pos_of_ne_zero
        intro h0
        rw [h0] at hl
        omega
      have hmod : i % de.size < de.size := Nat.mod_lt _ hpos
      have e1 : ∀ (k j : Nat), j < k * de.size → ((List.replicate k de.zero).flatten)[j]? = de.zero[j % de.size]? := by
        intro k
        induction k with
        | zero => intro j hj; omega
        | succ k ih =>
          intro j hj
          rw [List.replicate_succ, List.flatten_cons]
          by_cases hjl : j < de.size
          · rw [List.getElem?_append_left (by omega), Nat.mod_eq_of_lt hjl]
          · rw [List.getElem?_append_right (by omega), hz0, ih (j - de.size) (by rw [Nat.add_mul] at hj; omega), ← Nat.mod_eq_sub_mod (by omega)]
      have e2 : (Builtin.zeroCells z.cells len).toList[i]? = z.cells.toList[i % de.size]? := by
        simp only [Builtin.zeroCells, Array.toList_map, Array.toList_range, List.getElem?_map, hzc]
        rw [List.getElem?_range hl]
        simp only [Option.map_some]
        rw [getElem!_pos z.cells _ (by omega)]
        simp [hzc, hmod]
      rw [e1 len i hl] at hy
      rw [e2] at hv
      exact (hzr G).2 _ y v hy hv
    obtain ⟨H, hle, hW', rep⟩ := hW.put (off := off) ht hus hpl (by simp [hz0]; omega) hh
    obtain ⟨b', cap', cur, h1, h2, h3, h4, h5, h6, h7, h8⟩ := hW.tok tk m e s ht
    rw [hh] at h1
    cases h1
    have hcell : ∀ j, w.cell? ⟨b, j, none⟩ = cur[j]? := fun j => cell_of_row w b j cur e (0, 0) h3
    have hul : (Builtin.zeroCells z.cells len).toList.length = len * de.size := by simp [zeroCells_size, hzc]
    have run2 : (Builtin.clear_ #[t] o.type #[.slice (some ⟨b, oo, none⟩) len cap]).run P w = .ok (.tuple #[]) (w.setCells b off (Builtin.zeroCells z.cells len).toList) := by
      rcases Nat.eq_zero_or_pos len with rfl | hpos
      · have : (Builtin.zeroCells z.cells 0).toList = [] := by simp [Builtin.zeroCells]
        rw [this]
        simp [Builtin.clear_, run_underlying hu, World.setCells]
      · obtain rfl := ho hpos
        have run := run_storeCells_cells (P := P) b oo (Builtin.zeroCells z.cells len).toList 0 w (fun j hj => by rw [hcell, Nat.add_zero, Array.getElem?_eq_getElem (by omega)]; rfl) (fun j hj => by simp [World.frozen?, h3]) hus.oneCell
        simp only [Nat.add_zero] at run
        obtain ⟨k, rfl⟩ : ∃ k, len = k + 1 := ⟨len - 1, by omega⟩
        simp [Builtin.clear_, run_underlying hu, zeroValue, typeInfo, hie, hz, run]
    have run3 : (execOp a.eval o).run P w = .ok (.value (.tuple #[])) (w.setCells b off (Builtin.zeroCells z.cells len).toList) := by
      simp [execOp, hop, resolve, hc1, invoke, builtin, hc2, hc3, hvx, run2]
    rw [run3, Oper.upon_value, hdst]
    refine kk _ _ H _ _ h ⟨fun b2 i u hu => hle.prot b2 i u ?_, fun t x hx => hle.hdr t x (hG.hdr t x hx), fun i b hb => hle.box i b (hG.box i b hb), hle.base.trans hG.base⟩ (hE.putV hle rep) rfl hW'
    rw [G.but_none [tk] b2 i]
    · exact hG.prot b2 i u hu
    · rintro ⟨t, c, ht', hh'⟩
      rw [List.mem_singleton.1 ht'] at hh'
      rw [hA b2 i (hW.own tk b2 c hy hh')] at hu
      cases hu
theorem SemOne.capNil (hT : T.Ok P) {ops : Array Oper} {o : Oper} {ρ : Rho} {S : St} {K : Rho → St → Prop} (hw : dWant ops (EV n ρ) o = some true) {t : TypeId} {x : Operand} {c0 : Call} (hop : o.op = .call c0) (hc1 : c0.callee = .builtin .cap) (hc2 : c0.args = #[x]) (hc3 : c0.argTypes = #[t])
    (hx : ev1 (EV n ρ) x = some .nilsl) {d : D} {el : TypeId} (hd : T.desc t = some d) (he : d.elem = some el) (h : K (upd ρ o.dst (.one (.int .i64 0))) S) : SemOne P w0 n ops o ρ S K := by
  refine SemOne.pure hw h (fun A G a w hE hW => ?_)
  have rx := ev1_ok hE hx
  obtain ⟨u, hu, _, hel, _⟩ := (hT t d hd).und
  obtain rfl := hel el he
  generalize hvx : a.eval x = vx at rx
  cases rx
  exact ⟨G, _, w, Ghost.Le.refl G, .one (.int .i64 0), hW, by simp [execOp, hop, resolve, hc1, invoke, builtin, hc2, hc3, hvx, Builtin.cap_, run_underlying hu, goInt]⟩
theorem SemOne.sliceNil (hT : T.Ok P) {ops : Array Oper} {o : Oper} {ρ : Rho} {S : St} {K : Rho → St → Prop} (hw : dWant ops (EV n ρ) o = some true) {t : TypeId} {x hi : Operand} (hop : o.op = .slice t x none (some hi) none)
    {kd : IntKind} (hx : ev1 (EV n ρ) x = some .nilsl) (hi' : ev1 (EV n ρ) hi = some (.int kd 0)) {d de : D} {e : TypeId} (hd : T.desc t = some d) (he : d.elem = some e) (hde : T.desc e = some de)
    (h : K (upd ρ o.dst (.one .nilsl)) S) : SemOne P w0 n ops o ρ S K := by
  refine SemOne.pure hw h (fun A G a w hE hW => ?_)
  have rx := ev1_ok hE hx
  have ri := ev1_ok hE hi'
  obtain ⟨u, hu, _, hel, _⟩ := (hT t d hd).und
  obtain rfl := hel e he
  obtain ⟨ie, z, hie, hs, _⟩ := (hT e de hde).info
  generalize hvx : a.eval x = vx at rx
  generalize hvi : a.eval hi = vi at ri
  cases rx
  cases ri
  have ht' : P.underlying t = some (.slice (P.elem t)) := by rw [elem_eq hu]; exact hu
  have hsz : ∀ w, (sizeOf (P.elem t)).run P w = .ok de.size w := by intro w; rw [elem_eq hu]; simp [sizeOf, typeInfo, hie, hs]
  have run : (Instr.sliceAt t (.slice none 0 0) none (some (.int kd 0)) none).run P w = .ok (.slice none 0 0) w := by
    rw [run_sliceAt_slice (P := P) (w := w) t _ _ _ _ ht', run_slice_h (P := P) (w := w) t _ _ _ ht' kd 0 (by omega) (by omega), hsz]
    rfl
  exact ⟨G, _, w, Ghost.Le.refl G, .one .nilsl, hW, by simp [execOp, hop, hvx, hvi, run]⟩
theorem SemOne.zeros (hT : T.Ok P) {ops : Array Oper} {o : Oper} {ρ : Rho} {S : St} {K : Rho → St → Prop} (hw : dWant ops (EV n ρ) o = some true) {t ti : TypeId} {x y : Operand} {c0 : Call} (hop : o.op = .call c0) (hc1 : c0.callee = .builtin .append) (hc2 : c0.args = #[x, y]) (hc3 : c0.argTypes = #[t, ti])
    (hx : ev1 (EV n ρ) x = some .nilsl) {len : Nat} (hl0 : 0 < len) (hlm : len ≤ maxLen) (hy : ev1 (EV n ρ) y = some (.int .i64 len)) {d de di : D} {el : TypeId} (hd : T.desc t = some d) (he : d.elem = some el) (hde : T.desc el = some de) (hz0 : de.zero.length = de.size) (hdi : T.desc ti = some di) (hik : di.ik = some .i64)
    (hby' : len * de.bytes ≤ 140737488355328) (h : K (upd ρ o.dst (.one (.sl (some S.toks.length) len []))) (S.born (0, el, de.size))) : SemOne P w0 n ops o ρ S K := by
  refine SemOne.pure hw h (fun A G a w hE hW => ?_)
  have rx := ev1_ok hE hx
  have ry := ev1_ok hE hy
  obtain ⟨u, hu, _, hel, _⟩ := (hT t d hd).und
  obtain rfl := hel el he
  obtain ⟨ie, z, hie, hs, hby, hz, hzr⟩ := (hT el de hde).info
  obtain ⟨ui, hui, _, _, _, _, hint⟩ := (hT ti di hdi).und
  obtain rfl := hint _ hik
  have hzc : z.cells.size = de.size := by rw [← hz0, (hzr G).1]; simp
  generalize hvx : a.eval x = vx at rx
  generalize hvy : a.eval y = vy at ry
  cases rx
  cases ry
  have hge := grownCap_ge w len 0 el
  have hml : len ≤ 9223372036854775807 := by unfold maxLen at hlm; omega
  have hwrap : IntKind.i64.wrap (len : Int) = (len : Int) := by rw [IntKind.wrap_i64]; omega
  have hrun : (Builtin.append_ #[t, ti] o.type #[.slice none 0 0, .int .i64 len]).run P w = .ok (.slice (some ⟨w.heap.size, 0, none⟩) len (grownCap w len 0 el)) (w.drew.alloc (.cells (Builtin.zeroCells z.cells len ++ Builtin.zeroCells z.cells (grownCap w len 0 el - len)) el)) := by
    have hn : len ≠ 0 := by omega
    have h63' : ¬ (9223372036854775807 < (len : Int)) := by omega
    have h48a : len * ie.bytes ≤ 140737488355328 := by rw [hby]; exact hby'
    have h48' : ¬ (281474976710656 < Builtin.nextslicecap len 0 * ie.bytes) := by rw [nextslicecap_zero hl0]; omega
    have h48b : ¬ (281474976710656 < (len : Int) * (ie.bytes : Int)) := by
      rw [← Int.natCast_mul]
      omega
    have hng : ¬ ((len : Int) < 0) := by omega
    by_cases hs0 : ie.size = 0
    · have hzz : Builtin.zeroCells z.cells len = #[] := by
        apply Array.ext'
        have : (Builtin.zeroCells z.cells len).toList.length = 0 := by simp [zeroCells_size, hzc, ← hs, hs0]
        exact List.eq_nil_of_length_eq_zero this
      simp [Builtin.append_, run_underlying hu, run_underlying hui, sizeOf, typeInfo, zeroValue, hie, hz, asInt, asIntOf, hwrap, hng, h48b, hn, h63', h48', Question.forced, run_firstCells_none, newRow, grownCap, hzz]
    · simp [Builtin.append_, run_underlying hu, run_underlying hui, sizeOf, typeInfo, zeroValue, hie, hz, asInt, asIntOf, hwrap, hng, h48b, hn, h63', h48', Question.forced, run_firstCells_none, newRow, grownCap]
      intro h0
      have := Nat.mul_pos hl0 (Nat.pos_of_ne_zero hs0)
      omega
  obtain ⟨H, hle, hh, hpr, hw'⟩ := hW.drew.newRow el de.size (grownCap w len 0 el) [] [] ((Builtin.zeroCells z.cells len ++ Builtin.zeroCells z.cells (grownCap w len 0 el - len)).toList) ⟨rfl, fun i x v hx _ => by simp at hx⟩ (by
    simp only [List.nil_append, Array.toList_append, List.length_append, Array.length_toList, zeroCells_size, hzc]
    rw [← Nat.add_mul]
    congr 1
    omega) (grownCap_le_maxLen w len 0 el hlm)
  refine ⟨H, _, _, hle, .one (newRow_sl (vs := []) hge hh (fun i hi => by simp at hi) ⟨rfl, fun i x v hx _ => by simp at hx⟩), hw', ?_⟩
  simp [execOp, hop, resolve, hc1, invoke, builtin, hc2, hc3, hvx, hvy, hrun]
  congr 2
  apply Array.ext'
  simp
end
end Go.Den
namespace Go.Den
open Go.RowKit
inductive WV where
  | v (x : AV)
  | kb (b : Bool)
  | loc (j off : Nat)
def WV.av (nb : Nat) : WV → AV
  | .v x => x
  | .kb b => .one (.bool b)
  | .loc j off => .ptr (nb + j) off
abbrev Lo := List (TypeId × List AL)
def join (S : St) (L : Lo) : St := { S with boxes := S.boxes ++ L }
abbrev Env := List (Nat × WV)
def look : Env → Nat → Option WV
  | [], _ => none
  | (k, v) :: r, t => match Nat.beq k t with
    | true => some v
    | false => look r t
def drop1 : Env → Nat → Env
  | [], _ => []
  | (k, v) :: r, t => match Nat.beq k t with
    | true => drop1 r t
    | false => (k, v) :: drop1 r t
def setE (env : Env) (t : Nat) (v : WV) : Env := (t, v) :: drop1 env t
def restr : List Nat → Env → Env
  | [], _ => []
  | k :: D, env => match look env k with
    | some v => (k, match v with | .kb b => .v (.one (.bool b)) | v => v) :: restr D env
    | none => restr D env
def evW (env : Env) : Operand → Option WV
  | .tmp t => look env t
  | .const (.bool b) => some (.kb b)
  | .const c => (ofConst c).map .v
  | .func f => some (.v (.clo f []))
  | .global _ => none
abbrev KW := WV → St → Lo → Prop
def wEv (env : Env) (x : Operand) (K : WV → Prop) : Prop := match evW env x with | some v => K v | none => False
def wA (env : Env) (x : Operand) (K : AL → Prop) : Prop := match evW env x with | some (.v (.one a)) => K a | some (.kb b) => K (.bool b) | _ => False
def wI (env : Env) (x : Operand) (K : Int → Prop) : Prop := match evW env x with | some (.v (.one (.int _ n))) => K n | _ => False
def WV.plain : WV → Option AV
  | .v x => some x
  | .kb b => some (.one (.bool b))
  | .loc .. => none
def wP (env : Env) (x : Operand) (K : AV → Prop) : Prop := match (evW env x).bind WV.plain with | some v => K v | none => False
def wPs (env : Env) : List (Nat × Operand) → (List (Nat × AV) → Prop) → Prop
  | [], K => K []
  | (i, x) :: r, K => wP env x fun v => wPs env r fun vs => K ((i, v) :: vs)
def allCells : List AL → (List AL → Prop) → Prop
  | [], K => K []
  | .int k _ :: r, K => ∀ n : Int, allCells r fun xs => K (.int k n :: xs)
  | .bool _ :: r, K => ∀ b : Bool, allCells r fun xs => K (.bool b :: xs)
  | .str _ :: r, K => ∀ s : ByteArray, allCells r fun xs => K (.str s :: xs)
  | _ :: r, K => ∀ x : AL, allCells r fun xs => K (x :: xs)
def AL.like : AL → AL → Bool
  | .int k _, .int k' _ => k == k'
  | .int .., _ => false
  | .bool _, .bool _ => true
  | .bool _, _ => false
  | .str _, .str _ => true
  | .str _, _ => false
  | _, _ => true
def likeCells : List AL → List AL → Bool
  | [], [] => true
  | x :: xs, y :: ys => x.like y && likeCells xs ys
  | _, _ => false
def byteAt (s : ByteArray) (i : Int) : Int := ((s.data.getD i.toNat 0).toNat : Int)
def AL.len? : AL → Option Nat
  | .nilsl => some 0
  | .sl _ n _ => some n
  | _ => none
def wCells (d : D) (ys : List AL) (K : AV → Prop) : Prop :=
  match d.row with
  | true => (Nat.beq d.zero.length d.size && Nat.blt 0 d.size) = true ∧ (∃ xs, likeCells d.zero xs = true ∧ ys.take d.size = xs) ∧ allCells d.zero fun xs => ys.take d.size = xs → K (.agg xs)
  | false => (∃ x, likeCells d.zero [x] = true ∧ ys[0]? = some x) ∧ allCells d.zero fun xs => ys[0]? = xs[0]? → match xs with | [x] => K (.one x) | _ => False
def wLoad (T : Tab) (t : TypeId) (p : WV) (S : St) (L : Lo) (K : KW) : Prop :=
  match p with
  | .loc j off => match dLoad T t (.ptr j off) ⟨L, [], [], 0⟩ with | some v => K (.v v) S L | none => False
  | .v (.ptr i off) => match T.desc t with
    | some d => ∃ bx, S.boxes[i]? = some bx ∧ wCells d (bx.2.drop off) fun v => K (.v v) S L
    | none => False
  | .v (.el xs) => match T.desc t with
    | some d => wCells d xs fun v => K (.v v) S L
    | none => False
  | _ => False
def wStore (T : Tab) (t : TypeId) (p : WV) (x : AV) (S : St) (L : Lo) (K : KW) : Prop :=
  match p with
  | .loc j off => match dStore T t (.ptr j off) x ⟨L, [], [], 0⟩ with | some S' => K (.v .junk) S S'.boxes | none => False
  | .v (.ptr i off) => ∃ S', dStore T t (.ptr i off) x S = some S' ∧ K (.v .junk) S' L
  | _ => False
def wField (T : Tab) (t : TypeId) (p : WV) (f : Nat) (K : WV → Prop) : Prop :=
  match p with
  | .loc j off => match dField T t (.ptr j off) f with | some (.ptr j' off') => K (.loc j' off') | _ => False
  | .v a => match dField T t a f with | some r => K (.v r) | none => False
  | _ => False
def in64 (n : Int) : Prop := -9223372036854775808 ≤ n ∧ n ≤ 9223372036854775807
def wBin (nov : Bool) (T : Tab) (op : BinOp) (xt : TypeId) (x y : AL) (K : AL → Prop) : Prop :=
  match y with
  | .nilsl => ∃ b, dBin2 T op xt x .nilsl = some (.bool b) ∧ K (.bool b)
  | _ => match x, y with
  | .int .i64 a, .int .i64 b => match nov, op with
    | true, .add => in64 (a + b) ∧ K (.int .i64 (a + b))
    | true, .sub => in64 (a - b) ∧ K (.int .i64 (a - b))
    | true, .mul => in64 (a * b) ∧ K (.int .i64 (a * b))
    | true, .quo => b ≠ 0 ∧ in64 (a.tdiv b) ∧ K (.int .i64 (a.tdiv b))
    | _, .rem => b ≠ 0 ∧ K (.int .i64 (a.tmod b))
    | _, _ => match dBin2 T op xt x y with | some r => K r | none => False
  | .str a, .str b => match op with
    | .add => a.size + b.size ≤ 9223372036854775807 ∧ K (.str (a ++ b))
    | .eql => K (.bool (decide (a = b)))
    | .neq => K (.bool (decide (a ≠ b)))
    | _ => match dBin2 T op xt x y with | some r => K r | none => False
  | _, _ => match dBin2 T op xt x y with | some r => K r | none => False
def wSlice (T : Tab) (t : TypeId) (x : AL) (lo hi : Option AL) (K : AL → Prop) : Prop :=
  match (T.desc t).map (·.isStr) with
  | some true => match x, lo, hi with
    | .str s, some (.int _ l), some (.int _ h) => 0 ≤ l ∧ l ≤ h ∧ h ≤ s.size ∧ K (.str (s.extract l.toNat h.toNat))
    | .str s, none, some (.int _ h) => 0 ≤ h ∧ h ≤ s.size ∧ K (.str (s.extract 0 h.toNat))
    | .str s, some (.int _ l), none => 0 ≤ l ∧ l ≤ s.size ∧ K (.str (s.extract l.toNat s.size))
    | _, _, _ => False
  | some false => ∃ r, dSlice T t x lo hi = some r ∧ K r
  | none => False
def wO (env : Env) (x : Option Operand) (K : Option AL → Prop) : Prop := match x with | none => K none | some x => wA env x fun a => K (some a)
def wArgs (nb : Nat) (env : Env) : List Operand → (List AV → Prop) → Prop
  | [], K => K []
  | x :: r, K => wEv env x fun v => wArgs nb env r fun vs => K (v.av nb :: vs)
def wOp (nov : Bool) (T : Tab) (env : Env) (S : St) (L : Lo) (op : Op) (K : KW) : Prop :=
  match op with
  | .move x => wEv env x fun v => K v S L
  | .assign x => wEv env x fun v => K v S L
  | .nilCheck x => wEv env x fun v => match v with | .loc j off => K (.loc j off) S L | .v (.ptr i off) => K (.v (.ptr i off)) S L | _ => False
  | .pick c a b => match evW env c with
    | some (.kb true) => wEv env a fun v => K v S L
    | some (.kb false) => wEv env b fun v => K v S L
    | some (.v (.one (.bool t))) => (t = true → wEv env a fun v => K v S L) ∧ (t = false → wEv env b fun v => K v S L)
    | _ => False
  | .alloc t => match T.desc t with | some d => K (.loc L.length 0) S (L ++ [(t, d.zero)]) | none => False
  | .box t x => wP env x fun v => match v.flat with | some xs => K (.loc L.length 0) S (L ++ [(t, xs)]) | none => False
  | .build t ps => wPs env ps.toList fun vs => match dBuild T t vs with | some v => K (.v v) S L | none => False
  | .buildSlice t n ps => wPs env ps.toList fun vs => match dBuildSlice T t n vs S with | some r => K (.v (.one r.1)) r.2 L | none => False
  | .load t p => wEv env p fun p => wLoad T t p S L K
  | .store t p x => wEv env p fun p => wP env x fun x => wStore T t p x S L K
  | .binOp op xt x y _ => wA env x fun x => wA env y fun y => wBin nov T op xt x y fun r => K (.v (.one r)) S L
  | .unOp op _ x => match op, evW env x with
    | .not, some (.kb b) => K (.kb (!b)) S L
    | _, _ => wA env x fun x => match dUn op x with | some r => K (.v (.one r)) S L | none => False
  | .fieldAddr t p f => wEv env p fun p => wField T t p f fun v => K v S L
  | .indexAddr t x i => wA env x fun x => wI env i fun i => match (T.desc t).bind fun d => d.elem.bind T.desc with
    | some de => ∃ tok n xs, x = .sl tok n xs ∧ 0 ≤ i ∧ i < n ∧ K (.v (.el (xs.drop (i.toNat * de.size)))) S L
    | none => False
  | .index t x i => wA env x fun x => wI env i fun i => match (T.desc t).map (·.isStr), x with
    | some true, .str s => 0 ≤ i ∧ i < s.size ∧ K (.v (.one (.int .u8 (byteAt s i)))) S L
    | _, _ => False
  | .slice t x lo hi none => wA env x fun x => wO env lo fun lo => wO env hi fun hi => wSlice T t x lo hi fun r => K (.v (.one r)) S L
  | .extract x i => wP env x fun x => match dExtract x i with | some v => K (.v v) S L | none => False
  | .convert s d x => wA env x fun x => match (T.desc s).isSome, (T.desc d).map (·.ik) with
    | true, some (some k) => (match x with
      | .int _ n => (match nov, k with
        | true, .i64 => in64 n ∧ K (.v (.one (.int .i64 n))) S L
        | _, _ => K (.v (.one (.int k (k.wrap n)))) S L)
      | _ => False)
    | _, _ => ∃ r, dConv T s d x = some (.str r) ∧ K (.v (.one (.str r))) S L
  | .makeFunc (.func f) ⟨[]⟩ caps => wArgs S.boxes.length env caps.toList fun vs => K (.v (.clo f vs)) S L
  | .call c => match c.callee, c.args.toList, c.argTypes.toList with
    | .builtin .len, [x], [t] => wA env x fun x => match (T.desc t).map fun d => (d.isStr, d.elem.isSome) with
      | some (true, _) => (match x with | .str s => K (.v (.one (.int .i64 s.size))) S L | _ => False)
      | some (false, true) => ∃ n : Nat, x.len? = some n ∧ K (.v (.one (.int .i64 n))) S L
      | _ => False
    | .builtin .append, [s, x], [t, t'] => t = t' ∧ wA env s fun s => wA env x fun x => ∃ r S', dAppend2 T t s x S = some (r, S') ∧ K (.v (.one r)) S' L
    | _, _, _ => False
  | _ => False
def wAll (T : Tab) : List TypeId → (List AV → Prop) → Prop
  | [], K => K []
  | t :: r, K => match T.desc t with
    | some d => (match d.row with
      | true => allCells d.zero fun xs => wAll T r fun vs => K (.agg xs :: vs)
      | false => allCells d.zero fun xs => match xs with | [x] => wAll T r fun vs => K (.one x :: vs) | _ => False)
    | none => False
def likeV (T : Tab) (t : TypeId) (v : AV) : Bool :=
  match T.desc t with
  | some d => (match d.row, v with
    | true, .agg xs => likeCells d.zero xs
    | false, .one x => likeCells d.zero [x]
    | _, _ => false)
  | none => false
def likeVs (T : Tab) : List TypeId → List AV → Bool
  | [], [] => true
  | t :: ts, v :: vs => likeV T t v && likeVs T ts vs
  | _, _ => false
def tupOf : List AV → AV
  | [v] => v
  | vs => .tup vs
inductive Kn where
  | seq (b : Code)
  | blk (id : Nat)
structure Hk where
  tot : FuncId → List AV → St → Lo → (AV → St → Prop) → Prop
  loop : Nat → Code → List Kn → (Ex → Env → St → Lo → Prop) → Env → St → Lo → Prop
  toty : List Nat → FuncId → List AV → List (Nat × Nat) → St → Lo → (AV → St → Prop) → Prop
  esc : Nat → Code → List Kn → (Ex → Env → St → Lo → Prop) → Env → St → Lo → Prop
structure Own where
  keep : List Nat
  dead : List (Nat × Nat)
structure Cf where
  nov : Bool
  own : Nat → Option Own
  sp : Nat → Nat
def Cf.of (b : Bool) : Cf := ⟨b, fun _ => none, fun _ => 0⟩
instance : Coe Bool Cf := ⟨Cf.of⟩
def deadC : List AL → Nat → List AL
  | [], _ => []
  | _ :: r, 0 => .undef :: r
  | x :: r, j + 1 => x :: deadC r j
def deadB : Lo → Nat → Nat → Lo
  | [], _, _ => []
  | (t, cs) :: r, 0, j => (t, deadC cs j) :: r
  | b :: r, i + 1, j => b :: deadB r i j
def deadLo : List (Nat × Nat) → Lo → Lo
  | [], L => L
  | (i, j) :: r, L => deadLo r (deadB L i j)
def clearLs (S : St) (Y : List Nat) : List AL → Prop
  | [] => True
  | x :: r => x.clear S Y = true ∧ clearLs S Y r
def clearLo (S : St) (Y : List Nat) : Lo → Prop
  | [] => True
  | (_, cs) :: r => clearLs S Y cs ∧ clearLo S Y r
def clearV (S : St) (Y : List Nat) : AV → Prop
  | .one x => x.clear S Y = true
  | .agg xs => clearLs S Y xs
  | .ptr _ _ => True
  | .nilp => True
  | _ => False
def clearEnv (S : St) (Y : List Nat) : Env → Prop
  | [] => True
  | (_, .v v) :: r => clearV S Y v ∧ clearEnv S Y r
  | _ :: r => clearEnv S Y r
def wTotY (P : Program) (w0 : World) (T : Tab) (Y : List Nat) (f : FuncId) (args : List AV) (dead : List (Nat × Nat)) (S : St) (L : Lo) (R : AV → St → Prop) : Prop :=
  (∀ t, t ∈ Y → t ∈ S.young ∧ (S.tok t).isSome = true) ∧ TotY P w0 Y f args (join S L) (fun v S' => ∃ S1, S' = join S1 (deadLo dead L) ∧ S1.boxes.length = S.boxes.length ∧ R v S1) ∧
    ∀ v S1, R v S1 → ∃ fn vs, P.funcs[f]? = some fn ∧ v = tupOf vs ∧ likeVs T fn.resultTypes.toList vs = true
def wTot (P : Program) (w0 : World) (T : Tab) (f : FuncId) (args : List AV) (S : St) (L : Lo) (R : AV → St → Prop) : Prop :=
  Tot P w0 f args (join S L) (fun v S' => ∃ S1, S' = join S1 L ∧ S1.boxes.length = S.boxes.length ∧ R v S1) ∧
    ∀ v S1, R v S1 → ∃ fn vs, P.funcs[f]? = some fn ∧ v = tupOf vs ∧ likeVs T fn.resultTypes.toList vs = true
def wCall (hk : Hk) (P : Program) (T : Tab) (f : FuncId) (args : List AV) (S : St) (L : Lo) (K : KW) : Prop :=
  match P.funcs[f]? with
  | some fn => ∃ R : AV → St → Prop, hk.tot f args S L R ∧ wAll T fn.resultTypes.toList fun vs => ∀ S1, R (tupOf vs) S1 → K (.v (tupOf vs)) S1 L
  | none => False
abbrev KE := Env → St → Lo → Prop
def wCallY (hk : Hk) (P : Program) (T : Tab) (f : FuncId) (args : List AV) (o : Own) (S : St) (L : Lo) (env : Env) (K : WV → KE) : Prop :=
  match P.funcs[f]? with
  | some fn => T.own = true ∧ ∃ (Y : List Nat) (R : AV → St → Prop), hk.toty Y f args o.dead S L R ∧ clearEnv S Y (restr o.keep env) ∧ clearLo S Y (deadLo o.dead L) ∧
      wAll T fn.resultTypes.toList fun vs => ∀ S1, R (tupOf vs) S1 → K (.v (tupOf vs)) (restr o.keep env) S1 (deadLo o.dead L)
  | none => False
def wSet (n : Nat) (env : Env) (d : Option Tmp) (v : WV) (K : Env → Prop) : Prop :=
  match d with
  | some d => (match Nat.blt d n with | true => K (setE env d v) | false => False)
  | none => K env
def wRun (nov : Cf) (hk : Hk) (P : Program) (T : Tab) (n : Nat) (o : Oper) (env : Env) (S : St) (L : Lo) (K : KE) : Prop :=
  match o.op with
  | .call c => match c.callee with
    | .value x => match evW env x with
      | some (.v (.clo f caps)) => wArgs S.boxes.length env c.args.toList fun vs => match nov.own (o.dst.getD 0) with
        | none => wCall hk P T f (vs ++ caps) S L fun v S L => wSet n env o.dst v fun env => K env S L
        | some w => wCallY hk P T f (vs ++ caps) w S L env fun v env S L => wSet n env o.dst v fun env => K env S L
      | _ => False
    | _ => wOp nov.nov T env S L o.op fun v S L => wSet n env o.dst v fun env => K env S L
  | op => wOp nov.nov T env S L op fun v S L => wSet n env o.dst v fun env => K env S L
def wOne (nov : Cf) (hk : Hk) (P : Program) (T : Tab) (n : Nat) (ops : Array Oper) (o : Oper) (env : Env) (S : St) (L : Lo) (K : KE) : Prop :=
  match o.guard with
  | none => wRun nov hk P T n o env S L K
  | some (j, want) => match (ops[j]?).bind (·.dst) with
    | some d => match look env d with
      | some (.kb b) => (match b, want with
        | true, true => wRun nov hk P T n o env S L K
        | false, false => wRun nov hk P T n o env S L K
        | _, _ => wSet n env o.dst (.v (.tup [])) fun env => K env S L)
      | some (.v (.one (.bool b))) => (match want with
        | true => (b = true → wRun nov hk P T n o (setE env d (.kb true)) S L K) ∧ (b = false → wSet n (setE env d (.kb false)) o.dst (.v (.tup [])) fun env => K env S L)
        | false => (b = true → wSet n (setE env d (.kb true)) o.dst (.v (.tup [])) fun env => K env S L) ∧ (b = false → wRun nov hk P T n o (setE env d (.kb false)) S L K))
      | some (.v (.tup [])) => wSet n env o.dst (.v (.tup [])) fun env => K env S L
      | _ => False
    | none => False
def WV.put (p : Nat → Bool) (tk off : Nat) (vs : List AL) : WV → WV
  | .v x => .v (x.put p tk off vs)
  | .kb b => .kb b
  | .loc j o => .loc j o
def putE (p : Nat → Bool) (tk off : Nat) (vs : List AL) : Env → Env
  | [] => []
  | (k, v) :: r => (k, v.put p tk off vs) :: putE p tk off vs r
def wSpec (nov : Cf) (T : Tab) (n : Nat) (o : Oper) (env : Env) (S : St) (L : Lo) (K : KE) (R : Prop) : Prop :=
  match o.op with
  | .indexAddr t x i => match nov.sp (o.dst.getD 0) with
    | 0 => R
    | _ => wA env x fun x => wI env i fun i => match (T.desc t).bind fun d => d.elem.bind T.desc with
      | some de => ∃ tk len xs, x = .sl (some tk) len xs ∧ 0 ≤ i ∧ i < len ∧ wSet n env o.dst (.v (.spot tk (i.toNat * de.size))) fun env => K env S L
      | none => False
  | .slice t x (some lo) none none => match nov.sp (o.dst.getD 0) with
    | 0 => R
    | _ => wA env x fun x => wI env lo fun i => match (T.desc t).bind fun d => d.elem.bind T.desc with
      | some de => ∃ tk len xs, x = .sl (some tk) len xs ∧ 0 ≤ i ∧ i ≤ len ∧ wSet n env o.dst (.v (.cut tk (i.toNat * de.size) (len - i.toNat))) fun env => K env S L
      | none => False
  | .slice t x none (some hi) none => match nov.sp (o.dst.getD 0) with
    | 0 => R
    | 1 => wA env x fun x => wI env hi fun i => match (T.desc t).bind fun d => d.elem.bind T.desc with
      | some de => ∃ tk len xs, x = .sl (some tk) len xs ∧ 0 ≤ i ∧ i ≤ len ∧ wSet n env o.dst (.v (.one (.sl (some tk) i.toNat (xs.take (i.toNat * de.size))))) fun env => K env S L
      | none => False
    | _ => wA env x fun x => wI env hi fun i => match (T.desc t).bind fun d => d.elem.bind T.desc with
      | some _ => x = .nilsl ∧ i = 0 ∧ wSet n env o.dst (.v (.one .nilsl)) fun env => K env S L
      | none => False
  | .store t p x => match evW env p with
    | some (.v (.spot tk off)) => (match o.dst with
      | none => wP env x fun v => match v.flat, T.desc t with
        | some vs, some d => vs.length = d.size ∧ ∃ m e s, S.tok tk = some (m, e, s) ∧ tk ∈ S.young ∧ off + vs.length ≤ m ∧ clrs S.has tk vs = true ∧ K (putE S.has tk off vs env) (S.put tk off vs) (putB S.has tk off vs L)
        | _, _ => False
      | some _ => False)
    | _ => R
  | .call c => match c.callee with
    | .builtin .clear => (match c.args.toList, c.argTypes.toList with
      | [x], [t] => (match evW env x with
        | some (.v (.cut tk off len)) => (match o.dst with
          | none => (match (T.desc t).bind fun d => d.elem.bind T.desc with
            | some de => de.zero.length = de.size ∧ ∃ m e s, S.tok tk = some (m, e, s) ∧ tk ∈ S.young ∧ off + len * de.size ≤ m ∧ clrs S.has tk ((List.replicate len de.zero).flatten) = true ∧
                K (putE S.has tk off ((List.replicate len de.zero).flatten) env) (S.put tk off ((List.replicate len de.zero).flatten)) (putB S.has tk off ((List.replicate len de.zero).flatten) L)
            | none => False)
          | some _ => False)
        | _ => False)
      | _, _ => False)
    | .builtin .cap => (match c.args.toList, c.argTypes.toList with
      | [x], [t] => wA env x fun x => match (T.desc t).bind (·.elem) with
        | some _ => x = .nilsl ∧ wSet n env o.dst (.v (.one (.int .i64 0))) fun env => K env S L
        | none => False
      | _, _ => False)
    | .builtin .append => (match nov.sp (o.dst.getD 0) with
      | 0 => R
      | _ => (match c.args.toList, c.argTypes.toList with
        | [x, y], [t, ti] => wA env x fun x => wA env y fun y => match (T.desc t).bind fun d => d.elem.bind fun e => (T.desc e).map fun de => (e, de), T.desc ti with
          | some (e, de), some di => x = .nilsl ∧ ∃ len : Nat, y = .int .i64 len ∧ 0 < len ∧ len ≤ maxLen ∧ len * de.bytes ≤ 140737488355328 ∧ de.zero.length = de.size ∧ di.ik = some .i64 ∧ wSet n env o.dst (.v (.one (.sl (some S.toks.length) len []))) fun env => K env (S.born (0, e, de.size)) L
          | _, _ => False
        | _, _ => False))
    | _ => R
  | _ => R
def wOneY (nov : Cf) (hk : Hk) (P : Program) (T : Tab) (n : Nat) (ops : Array Oper) (o : Oper) (env : Env) (S : St) (L : Lo) (K : KE) : Prop :=
  match T.own, o.guard with
  | true, none => wSpec nov T n o env S L K (wOne nov hk P T n ops o env S L K)
  | _, _ => wOne nov hk P T n ops o env S L K
def wList (nov : Cf) (hk : Hk) (P : Program) (T : Tab) (n : Nat) (ops : Array Oper) : List Oper → KE → KE
  | [], K, env, S, L => K env S L
  | o :: r, K, env, S, L => wOneY nov hk P T n ops o env S L fun env S L => wList nov hk P T n ops r K env S L
mutual
def wPlan (nov : Cf) (hk : Hk) (P : Program) (T : Tab) (n : Nat) (ops : Array Oper) : Plan → KE → KE
  | .done, K, env, S, L => K env S L
  | .take i p, K, env, S, L => match ops[i]? with
    | some o => wOne nov hk P T n ops o env S L fun env S L => wPlan nov hk P T n ops p K env S L
    | none => False
  | .all l, K, env, S, L => wPlanL nov hk P T n ops l K env S L
def wPlanL (nov : Cf) (hk : Hk) (P : Program) (T : Tab) (n : Nat) (ops : Array Oper) : List (Nat × Plan) → KE → KE
  | [], _, _, _, _ => True
  | (i, p) :: r, K, env, S, L => (match ops[i]? with
    | some o => wOneY nov hk P T n ops o env S L fun env S L => wPlan nov hk P T n ops p K env S L
    | none => False) ∧ wPlanL nov hk P T n ops r K env S L
end

abbrev QW := Ex → Env → St → Lo → Prop
def wCode (nov : Cf) (hk : Hk) (P : Program) (T : Tab) (n : Nat) (plans : Nat → Plan) : Nat → Code → List Kn → QW → KE
  | 0, _, _, _, _, _, _ => False
  | f + 1, c, ks, Q, env, S, L => match c with
    | .skip => wEx nov hk P T n plans f .normal ks Q env S L
    | .label _ => wEx nov hk P T n plans f .normal ks Q env S L
    | .exit id => wEx nov hk P T n plans f (.exit id) ks Q env S L
    | .ret => wEx nov hk P T n plans f .ret ks Q env S L
    | .region _ ops false => wList nov hk P T n ops ops.toList (fun env S L => wEx nov hk P T n plans f .normal ks Q env S L) env S L
    | .region id ops true => match plans id with
      | .done => hk.esc n (.region id ops true) ks Q env S L
      | p => (Region.noSelect ops && planOk ops ops.size (Array.replicate ops.size false) p) = true ∧ wPlan nov hk P T n ops p (fun env S L => wEx nov hk P T n plans f .normal ks Q env S L) env S L
    | .seq a b => wCode nov hk P T n plans f a (.seq b :: ks) Q env S L
    | .block id c => wCode nov hk P T n plans f c (.blk id :: ks) Q env S L
    | .loop c => hk.loop n c ks Q env S L
    | .cond c a b => match evW env c with
      | some (.kb true) => wCode nov hk P T n plans f a ks Q env S L
      | some (.kb false) => wCode nov hk P T n plans f b ks Q env S L
      | some (.v (.one (.bool t))) => (t = true → wCode nov hk P T n plans f a ks Q env S L) ∧ (t = false → wCode nov hk P T n plans f b ks Q env S L)
      | _ => False
    | _ => False
where
  wEx (nov : Cf) (hk : Hk) (P : Program) (T : Tab) (n : Nat) (plans : Nat → Plan) : Nat → Ex → List Kn → QW → KE
  | 0, _, _, _, _, _, _ => False
  | f + 1, e, ks, Q, env, S, L => match e, ks with
    | e, [] => Q e env S L
    | .normal, .seq b :: ks => wCode nov hk P T n plans f b ks Q env S L
    | .normal, .blk _ :: ks => wEx nov hk P T n plans f .normal ks Q env S L
    | .exit id, .seq _ :: ks => wEx nov hk P T n plans f (.exit id) ks Q env S L
    | .exit id, .blk id' :: ks => match Nat.beq id id' with
      | true => wEx nov hk P T n plans f .normal ks Q env S L
      | false => wEx nov hk P T n plans f (.exit id) ks Q env S L
    | .ret, _ :: ks => wEx nov hk P T n plans f .ret ks Q env S L
def wRes1 (T : Tab) (env : Env) (L : Lo) (keep : Bool) (nb : Nat) (r : ResultVar) (K : AV → Prop) : Prop :=
  match r with
  | .tmp t => (match look env t with
    | some v => (match keep, v with
      | _, .v x => K x
      | _, .kb b => K (.one (.bool b))
      | true, .loc j off => K (.ptr (nb + j) off)
      | false, _ => False)
    | none => False)
  | .cell a t => match look env a with
    | some (.loc j off) => (match dLoad T t (.ptr j off) ⟨L, [], [], 0⟩ with | some v => K v | none => False)
    | _ => False
def wResL (T : Tab) (env : Env) (L : Lo) (keep : Bool) (nb : Nat) : List ResultVar → (List AV → Prop) → Prop
  | [], K => K []
  | r :: rs, K => wRes1 T env L keep nb r fun v => wResL T env L keep nb rs fun vs => K (v :: vs)
def AV.dat : AV → Bool
  | .one _ => true
  | .agg _ => true
  | _ => false
def wEnd (T : Tab) (fn : Func) (keep : Bool) (nb : Nat) (Q : AV → St → Prop) : QW
  | .exit _, _, _, _ => False
  | _, env, S, L => wResL T env L keep nb fn.results.toList fun vs => match keep with
    | true => Q (tupOf vs) (join S L)
    | false => (vs.all AV.dat) = true ∧ Q (tupOf vs) S
def argEnv : Nat → List AV → Env
  | _, [] => []
  | i, v :: r => (i, .v v) :: argEnv (i + 1) r
def wFn (nov : Cf) (hk : Hk) (P : Program) (T : Tab) (plans : Nat → Plan) (keep : Bool) (f : FuncId) (args : List AV) (S : St) (Q : AV → St → Prop) : Prop :=
  match P.funcs[f]? with
  | some fn => match fn.body with
    | some c => ((!(fn.name == "runtime.NumGoroutine")) && Nat.ble args.length fn.ntmps) = true ∧ wCode nov hk P T fn.ntmps plans 2000 c [] (wEnd T fn keep S.boxes.length Q) (argEnv 0 args) S []
    | none => False
  | none => False
def subCode : Code → List Nat → Code
  | c, [] => c
  | .seq a _, 0 :: r => subCode a r
  | .seq _ b, _ :: r => subCode b r
  | .cond _ a _, 0 :: r => subCode a r
  | .cond _ _ b, _ :: r => subCode b r
  | .block _ c, _ :: r => subCode c r
  | .loop c, _ :: r => subCode c r
  | c, _ => c
def codeOf (P : Program) (f : FuncId) (r : List Nat) : Code := match P.funcs[f]? with | some fn => subCode (fn.body.getD .skip) r | none => .skip
end Go.Den
namespace Go.Den
open Go.RowKit
section
variable {P : Program} {T : Tab} {w0 : World} {A : Nat → Prop} {E : Ghost} {n : Nat}
mutual
theorem dPlan_ok (hT : T.Ok P) (hA : T.own = true → ∀ b i, A b → E.prot b i = none) {ops : Array Oper} (hns : Region.noSelect ops = true) {Q : Exit → Act → World → Prop} (hQ : ∀ c a w, ¬ Q (.panic c) a w) : ∀ (p : Plan) (fuel : Nat) (listed : Array Bool) (ρ : Rho) (S : St) (K : Rho → St → Prop),
    planOk ops fuel listed p = true → dPlan P w0 T n ops p ρ S K →
    ∀ (G : Ghost) (a : Act) (w : World), E.Le G → EnvR G (EV n ρ) a.tmps → WR w0 A S G w → (∀ ρ' S' H a' w', K ρ' S' → Fr n w0 A E ρ' S' H a a' w' → Q .normal a' w') → wpAny P .any ops Q fuel listed a w
  | .done, fuel, listed, ρ, S, K, hp, h, G, a, w, hG, hE, hW, k => by
    unfold planOk at hp
    unfold dPlan at h
    exact wpAny_done (by simpa using hp) (k ρ S G a w h ⟨hG, hE, rfl, hW⟩) fuel
  | .take i p, fuel, listed, ρ, S, K, hp, h, G, a, w, hG, hE, hW, k => by
    cases fuel with
    | zero => simp [planOk] at hp
    | succ fuel =>
      simp only [planOk, Bool.and_eq_true] at hp
      obtain ⟨⟨⟨h1, h2⟩, h3⟩, h4⟩ := hp
      unfold dPlan at h
      cases ho : ops[i]? with
      | none => rw [ho] at h1; cases h1
      | some o =>
        rw [ho] at h h1
        simp only [] at h h1
        unfold dOne at h
        split at h
        · rename_i hw
          generalize hop : dOper T (EV n ρ) S o.op = r at h
          cases r with
          | none => exact h.elim
          | some r =>
            obtain ⟨v, vr, rfl, hv, hrun⟩ := still_ok hT hE h1 hop
            simp only [dRes] at h
            refine wpAny_take ho hns h2 h3 (fun c a w hq => absurd hq (hQ _ _ _)) (.inl ⟨dWant_ok hE hw, hrun⟩) ?_
            exact dPlan_ok hT hA hns hQ p fuel _ _ S K h4 h G _ w hG (by rw [← EV_put]; exact hE.put' o.dst hv) hW (fun ρ' S' H a' w' hk hf => k ρ' S' H a' w' hk ⟨hf.1, hf.2.1, hf.2.2.1.trans (put_defers _ _ _), hf.2.2.2⟩)
        · rename_i hw
          refine wpAny_take ho hns h2 h3 (fun c a w hq => absurd hq (hQ _ _ _)) (.inr ⟨dWant_ok hE hw, rfl⟩) ?_
          exact dPlan_ok hT hA hns hQ p fuel _ _ S K h4 h G _ w hG (by rw [← EV_put]; exact hE.put' o.dst (.nought _)) hW (fun ρ' S' H a' w' hk hf => k ρ' S' H a' w' hk ⟨hf.1, hf.2.1, hf.2.2.1.trans (put_defers _ _ _), hf.2.2.2⟩)
        · exact h.elim
  | .all l, fuel, listed, ρ, S, K, hp, h, G, a, w, hG, hE, hW, k => by
    cases fuel with
    | zero => simp [planOk] at hp
    | succ fuel =>
      simp only [planOk, Bool.and_eq_true, beq_iff_eq] at hp
      obtain ⟨⟨h1, h2⟩, h3⟩ := hp
      unfold dPlan at h
      refine wpAny_all h2 (by intro h0; cases l <;> simp at h0 h1) (fun i hi => ?_)
      exact dPlanL_ok hT hA hns hQ l fuel listed ρ S K h3 h G a w hG hE hW k i hi
theorem dPlanL_ok (hT : T.Ok P) (hA : T.own = true → ∀ b i, A b → E.prot b i = none) {ops : Array Oper} (hns : Region.noSelect ops = true) {Q : Exit → Act → World → Prop} (hQ : ∀ c a w, ¬ Q (.panic c) a w) : ∀ (l : List (Nat × Plan)) (fuel : Nat) (listed : Array Bool) (ρ : Rho) (S : St) (K : Rho → St → Prop),
    planOkL ops fuel listed l = true → dPlanL P w0 T n ops l ρ S K →
    ∀ (G : Ghost) (a : Act) (w : World), E.Le G → EnvR G (EV n ρ) a.tmps → WR w0 A S G w → (∀ ρ' S' H a' w', K ρ' S' → Fr n w0 A E ρ' S' H a a' w' → Q .normal a' w') → ∀ i, i ∈ l.map (·.1) → wpOp P ops Q i (wpAny P .any ops Q fuel (listed.setIfInBounds i true)) a w
  | [], fuel, listed, ρ, S, K, hp, h, G, a, w, hG, hE, hW, k, i, hi => by simp at hi
  | (j, p) :: l, fuel, listed, ρ, S, K, hp, h, G, a, w, hG, hE, hW, k, i, hi => by
    simp only [planOkL, Bool.and_eq_true] at hp
    unfold dPlanL at h
    rcases List.mem_cons.1 (by simpa using hi : i ∈ j :: l.map (·.1)) with rfl | hi
    · obtain ⟨h, _⟩ := h
      unfold wpOp
      cases ho : ops[i]? with
      | none => rw [ho] at h; exact h.elim
      | some o =>
        rw [ho] at h
        simp only [] at h ⊢
        have go : ∀ ρ' S' H a' w', dPlan P w0 T n ops p ρ' S' K → Fr n w0 A E ρ' S' H a a' w' → wpAny P .any ops Q fuel (listed.setIfInBounds i true) a' w' := fun ρ' S' H a' w' hk hf =>
          dPlan_ok hT hA hns hQ p fuel _ ρ' S' K hp.1 hk H a' w' hf.1 hf.2.1 hf.2.2.2 (fun ρ2 S2 H2 a2 w2 hk2 hf2 => k ρ2 S2 H2 a2 w2 hk2 (hf.trans hf2))
        rcases h with h | ⟨ho, hw, h⟩
        · exact dOne_ok hT hA h hG hE hW go
        · rw [dWant_ok hE hw, if_pos rfl]
          exact .inl (h A E G a w _ _ (hA ho) hG hE hW (fun ρ' S' H a' w' hk h1 h2 h3 h4 => go ρ' S' H a' w' hk ⟨h1, h2, h3, h4⟩))
    · exact dPlanL_ok hT hA hns hQ l fuel listed ρ S K hp.2 h.2 G a w hG hE hW k i hi
end

theorem dwp_ok {nb0 : Nat} (hT : T.Ok P) (hA : T.own = true → ∀ b i, A b → E.prot b i = none) (hB : ∀ i b, E.box i = some b → i < nb0) : ∀ (c : Code) (ρ : Rho) (S : St) (Q : Ex → Rho → St → Prop), dwp P w0 T n nb0 c ρ S Q →
    ∀ (R : Exit → Act → World → Prop) (G : Ghost) (a : Act) (w : World), E.Le G → EnvR G (EV n ρ) a.tmps → WR w0 A S G w → (∀ e ρ' S' H a' w', Q e ρ' S' → Fr n w0 A E ρ' S' H a a' w' → R e.toExit a' w') → c.wp P R a w
  | .skip, ρ, S, Q, h, R, G, a, w, hG, hE, hW, k => wp_skip (k .normal ρ S G a w h ⟨hG, hE, rfl, hW⟩)
  | .label _, ρ, S, Q, h, R, G, a, w, hG, hE, hW, k => wp_label (k .normal ρ S G a w h ⟨hG, hE, rfl, hW⟩)
  | .exit id, ρ, S, Q, h, R, G, a, w, hG, hE, hW, k => wp_exit (k (.exit id) ρ S G a w h ⟨hG, hE, rfl, hW⟩)
  | .ret, ρ, S, Q, h, R, G, a, w, hG, hE, hW, k => wp_ret (k .ret ρ S G a w h ⟨hG, hE, rfl, hW⟩)
  | .region _ ops false, ρ, S, Q, h, R, G, a, w, hG, hE, hW, k => by
    unfold dwp at h
    refine wp_region ?_
    have := dList_ok (Q := R) hT hA ops.toList 0 ρ S (Q .normal) (by simp) h G a w hG hE hW (fun ρ' S' H a' w' hk hf => k .normal ρ' S' H a' w' hk hf)
    rw [Nat.sub_zero, ← List.range_eq_range'] at this
    exact this
  | .region _ ops true, ρ, S, Q, h, R, G, a, w, hG, hE, hW, k => by
    unfold dwp at h
    obtain ⟨hm, p, hns, hp, h⟩ := h
    refine wp_mono (Q := fun e a' w' => e = .normal ∧ R .normal a' w') (wp_region_any hm ?_) (fun e a' w' ⟨he, hr⟩ => by subst he; exact hr)
    exact dPlan_ok hT hA hns (fun c a w hq => by cases hq.1) p _ _ ρ S (Q .normal) hp h G a _ hG hE hW.drew (fun ρ' S' H a' w' hk hf => ⟨rfl, k .normal ρ' S' H a' w' hk hf⟩)
  | .seq c1 c2, ρ, S, Q, h, R, G, a, w, hG, hE, hW, k => by
    unfold dwp at h
    refine wp_seq (dwp_ok hT hA hB c1 ρ S _ h _ G a w hG hE hW (fun e ρ' S' H a' w' hk hf => ?_))
    cases e with
    | normal => exact dwp_ok hT hA hB c2 ρ' S' Q hk R H a' w' hf.1 hf.2.1 hf.2.2.2 (fun e2 ρ2 S2 H2 a2 w2 hk2 hf2 => k e2 ρ2 S2 H2 a2 w2 hk2 (hf.trans hf2))
    | exit id => exact k (.exit id) ρ' S' H a' w' hk hf
    | ret => exact k .ret ρ' S' H a' w' hk hf
  | .cond c c1 c2, ρ, S, Q, h, R, G, a, w, hG, hE, hW, k => by
    unfold dwp at h
    split at h
    · rename_i t ht
      have hc := ev1_ok hE ht
      have hcv : a.eval c = .bool t := by generalize a.eval c = q at hc; cases hc; rfl
      refine wp_cond hcv ?_
      cases t with
      | true => exact dwp_ok hT hA hB c1 ρ S Q (h.1 rfl) R G a w hG hE hW k
      | false => exact dwp_ok hT hA hB c2 ρ S Q (h.2 rfl) R G a w hG hE hW k
    · exact h.elim
  | .block id c, ρ, S, Q, h, R, G, a, w, hG, hE, hW, k => by
    unfold dwp at h
    refine wp_block (dwp_ok hT hA hB c ρ S _ h _ G a w hG hE hW (fun e ρ' S' H a' w' hk hf => ?_))
    cases e with
    | normal => exact k .normal ρ' S' H a' w' hk hf
    | exit id' =>
      show (if id' = id then R .normal a' w' else R (.exit id') a' w')
      simp only [dBlk] at hk
      split at hk
      · rename_i hid
        rw [if_pos hid]
        exact k .normal ρ' S' H a' w' hk hf
      · rename_i hid
        rw [if_neg hid]
        exact k (.exit id') ρ' S' H a' w' hk hf
    | ret => exact k .ret ρ' S' H a' w' hk hf
  | .loop c, ρ, S, Q, h, R, G, a, w, hG, hE, hW, k => by
    unfold dwp at h
    obtain ⟨I, m, h0, hi⟩ := h
    have cut : ∀ {ρ2 : Rho} {S2 : St} {H H2 : Ghost} {a' a2 : Act} {w2 : World} {kk : Nat}, nb0 ≤ kk → Fr n w0 A E ρ2 S2 H2 a' a2 w2 → Fr n w0 A E (fun i => (ρ2 i).cutP kk) (S2.takeB kk) (H2.dropB kk) a' a2 w2 := by
      intro ρ2 S2 H H2 a' a2 w2 kk hkk hf
      refine ⟨⟨hf.1.prot, hf.1.hdr, fun i b hb => ?_, hf.1.base⟩, hf.2.1.cutP kk, hf.2.2.1, hf.2.2.2.takeB kk⟩
      show (if i < kk then H2.box i else none) = some b
      rw [if_pos (Nat.lt_of_lt_of_le (hB i b hb) hkk)]
      exact hf.1.box i b hb
    refine wp_loop_ghost (fun m a' w' => ∃ ρ' S' H, I m ρ' S' ∧ Fr n w0 A E ρ' S' H a a' w') m ⟨ρ, S, G, h0, hG, hE, rfl, hW⟩ ?_
    rintro m a' w' ⟨ρ', S', H, hI, hf⟩
    refine dwp_ok hT hA hB c ρ' S' _ (hi m ρ' S' hI) _ H a' w' hf.1 hf.2.1 hf.2.2.2 (fun e ρ2 S2 H2 a2 w2 hk2 hf2 => ?_)
    obtain ⟨kk, hkk, hk2⟩ := hk2
    have hf3 := cut (H := H) hkk hf2
    cases e with
    | normal =>
      obtain ⟨m', hm', hI'⟩ := hk2
      exact ⟨m', hm', _, _, _, hI', hf.trans hf3⟩
    | exit id => exact k (.exit id) _ _ _ a2 w2 hk2 (hf.trans hf3)
    | ret => exact k .ret _ _ _ a2 w2 hk2 (hf.trans hf3)
  | .rangeFunc .., _, _, _, h, _, _, _, _, _, _, _, _ => by simp [dwp] at h
  | .scope _, _, _, _, h, _, _, _, _, _, _, _, _ => by simp [dwp] at h
  | .goto _, _, _, _, h, _, _, _, _, _, _, _, _ => by simp [dwp] at h
  | .refuse _, _, _, _, h, _, _, _, _, _, _, _, _ => by simp [dwp] at h
def argRho (args : List AV) : Rho := fun i => args.getD i .junk
def dEnd (T : Tab) (fn : Func) (Q : AV → St → Prop) : Ex → Rho → St → Prop
  | .exit _, _, _ => False
  | _, ρ, S => ∃ v, dResults T fn (EV fn.ntmps ρ) S = some v ∧ Q v S
theorem Tot.of_dwp (hT : T.Ok P) {f : FuncId} {fn : Func} {c : Code} (hf : P.funcs[f]? = some fn) (hn : (fn.name == "runtime.NumGoroutine") = false) (hb : fn.body = some c) {args : List AV} (hl : args.length ≤ fn.ntmps) {S : St} {Q : AV → St → Prop}
    (h : dwp P w0 T fn.ntmps S.boxes.length c (argRho args) { S with young := [] } (dEnd T fn fun v S' => Q v { S' with young := S'.young ++ S.young })) : Tot P w0 f args S Q := by
  refine ⟨⟨fn, hf, hn, by rw [hb]; rfl⟩, fun A G w vs hW hA => ?_⟩
  obtain ⟨hal, har⟩ := hA.env
  have hal' : args.length = vs.size := by rw [hal]; simp
  have hE : EnvR G (EV fn.ntmps (argRho args)) (vs ++ Array.replicate (fn.ntmps - vs.size) undef) := by
    refine ⟨by simp [EV_len]; omega, fun i x v hx hv => ?_⟩
    rw [EV_get] at hx
    split at hx
    · cases hx
      unfold argRho
      rcases Nat.lt_or_ge i args.length with hi | hi
      · rw [Array.getElem?_append_left (by omega)] at hv
        refine har i _ v ?_ (by simpa using hv)
        rw [List.getElem?_eq_getElem hi]
        simp [List.getD, hi]
      · simp only [List.getD, List.getElem?_eq_none hi]
        exact .junk v
    · cases hx
  have hW' : WR w0 (fun b => w.heap.size ≤ b) { S with young := [] } G w :=
    ⟨hW.prot, hW.tok, hW.later, hW.hlt, hW.box, hW.more, hW.boxes, hW.rows, hW.apart, hW.size, hW.below, fun t b c ht => by simp at ht, fun b hb => hb, fun t ht => by simp at ht, hW.hall, hW.basep, hW.oldt⟩
  have hAE : ∀ b i, w.heap.size ≤ b → G.prot b i = none := fun b i hb => by
    cases hp : G.prot b i with
    | none => rfl
    | some v => exact absurd (hW.lt hp) (by omega)
  refine calls_of_wp hf hb (dwp_ok hT (fun _ => hAE) (fun i b hb => (hW.box_lt hb).1) c _ _ _ h _ G _ w (Ghost.Le.refl G) hE hW' (fun e ρ' S1 H a' w' hk hfr => ?_))
  obtain ⟨hle, he, hd, hw⟩ := hfr
  have fin : (∃ v, dResults T fn (EV fn.ntmps ρ') S1 = some v ∧ Q v { S1 with young := S1.young ++ S.young }) → ∀ q, q = Exit.normal ∨ q = Exit.ret →
      bodyPost P fn (fun e w' => ∃ v S' vr H, e = .returned vr ∧ G.Le H ∧ RepV H v vr ∧ WR w0 A S' H w' ∧ Q v S') q a' w' := by
    rintro ⟨v, hv, hq⟩ q hqq
    obtain ⟨vr, h1, h2⟩ := dResults_ok hT hw he hv
    have hW2 : WR w0 A { S1 with young := S1.young ++ S.young } H w' := by
      have hlift : ∀ t, t ∈ S.young → ∀ b c, H.hdr t = some (b, c) → G.hdr t = some (b, c) := by
        intro t ht b c hh
        obtain ⟨x, hx⟩ := hW.hall t (hW.ylt t ht)
        rw [hle.hdr t x hx] at hh
        cases hh
        exact hx
      refine ⟨hw.prot, hw.tok, hw.later, hw.hlt, hw.box, hw.more, hw.boxes, hw.rows, hw.apart, hw.size, hw.below, fun t b c ht hh => ?_, fun b hb => hW.up b (hw.up b hb), fun t ht => ?_, hw.hall, hw.basep, hw.oldt⟩
      · rcases List.mem_append.1 ht with ht | ht
        · exact hW.up b (hw.own t b c ht hh)
        · exact hW.own t b c ht (hlift t ht b c hh)
      · rcases List.mem_append.1 ht with ht | ht
        · exact hw.ylt t ht
        · obtain ⟨x, hx⟩ := hW.hall t (hW.ylt t ht)
          apply Nat.lt_of_not_le
          intro hle2
          have := hle.hdr t x hx
          rw [hw.later t hle2] at this
          cases this
    rcases hqq with rfl | rfl
    · exact ⟨hd, vr, h2, v, _, vr, H, rfl, hle, h1, hW2, hq⟩
    · exact ⟨hd, vr, h2, v, _, vr, H, rfl, hle, h1, hW2, hq⟩
  cases e with
  | normal => exact fin hk _ (.inl rfl)
  | ret => exact fin hk _ (.inr rfl)
  | exit id => exact hk.elim
theorem Tot.of_dwpK (hT : T.Ok P) (ho : T.own = false) {f : FuncId} {fn : Func} {c : Code} (hf : P.funcs[f]? = some fn) (hn : (fn.name == "runtime.NumGoroutine") = false) (hb : fn.body = some c) {args : List AV} (hl : args.length ≤ fn.ntmps) {S : St} {Q : AV → St → Prop}
    (h : dwp P w0 T fn.ntmps S.boxes.length c (argRho args) S (dEnd T fn Q)) : Tot P w0 f args S Q := by
  refine ⟨⟨fn, hf, hn, by rw [hb]; rfl⟩, fun A G w vs hW hA => ?_⟩
  obtain ⟨hal, har⟩ := hA.env
  have hal' : args.length = vs.size := by rw [hal]; simp
  have hE : EnvR G (EV fn.ntmps (argRho args)) (vs ++ Array.replicate (fn.ntmps - vs.size) undef) := by
    refine ⟨by simp [EV_len]; omega, fun i x v hx hv => ?_⟩
    rw [EV_get] at hx
    split at hx
    · cases hx
      unfold argRho
      rcases Nat.lt_or_ge i args.length with hi | hi
      · rw [Array.getElem?_append_left (by omega)] at hv
        refine har i _ v ?_ (by simpa using hv)
        rw [List.getElem?_eq_getElem hi]
        simp [List.getD, hi]
      · simp only [List.getD, List.getElem?_eq_none hi]
        exact .junk v
    · cases hx
  refine calls_of_wp hf hb (dwp_ok hT (fun h => by rw [ho] at h; cases h) (fun i b hb => (hW.box_lt hb).1) c _ _ _ h _ G _ w (Ghost.Le.refl G) hE hW (fun e ρ' S1 H a' w' hk hfr => ?_))
  obtain ⟨hle, he, hd, hw⟩ := hfr
  have fin : (∃ v, dResults T fn (EV fn.ntmps ρ') S1 = some v ∧ Q v S1) → ∀ q, q = Exit.normal ∨ q = Exit.ret →
      bodyPost P fn (fun e w' => ∃ v S' vr H, e = .returned vr ∧ G.Le H ∧ RepV H v vr ∧ WR w0 A S' H w' ∧ Q v S') q a' w' := by
    rintro ⟨v, hv, hq⟩ q hqq
    obtain ⟨vr, h1, h2⟩ := dResults_ok hT hw he hv
    rcases hqq with rfl | rfl
    · exact ⟨hd, vr, h2, v, _, vr, H, rfl, hle, h1, hw, hq⟩
    · exact ⟨hd, vr, h2, v, _, vr, H, rfl, hle, h1, hw, hq⟩
  cases e with
  | normal => exact fin hk _ (.inl rfl)
  | ret => exact fin hk _ (.inr rfl)
  | exit id => exact hk.elim
theorem TotY.of_dwp (hT : T.Ok P) {f : FuncId} {fn : Func} {c : Code} (hf : P.funcs[f]? = some fn) (hn : (fn.name == "runtime.NumGoroutine") = false) (hb : fn.body = some c) {args : List AV} (hl : args.length ≤ fn.ntmps) {S : St} {Y : List Nat} (hY : ∀ t, t ∈ Y → t ∈ S.young ∧ (S.tok t).isSome = true) {Q : AV → St → Prop}
    (h : dwp P w0 T fn.ntmps S.boxes.length c (argRho args) { S with young := Y } (dEnd T fn fun v S' => Q v { S' with young := S'.young ++ S.young })) : TotY P w0 Y f args S Q := by
  refine ⟨⟨fn, hf, hn, by rw [hb]; rfl⟩, fun A G w vs hW hA => ?_⟩
  obtain ⟨hal, har⟩ := hA.env
  have hal' : args.length = vs.size := by rw [hal]; simp
  have hE : EnvR G (EV fn.ntmps (argRho args)) (vs ++ Array.replicate (fn.ntmps - vs.size) undef) := by
    refine ⟨by simp [EV_len]; omega, fun i x v hx hv => ?_⟩
    rw [EV_get] at hx
    split at hx
    · cases hx
      unfold argRho
      rcases Nat.lt_or_ge i args.length with hi | hi
      · rw [Array.getElem?_append_left (by omega)] at hv
        refine har i _ v ?_ (by simpa using hv)
        rw [List.getElem?_eq_getElem hi]
        simp [List.getD, hi]
      · simp only [List.getD, List.getElem?_eq_none hi]
        exact .junk v
    · cases hx
  have hW' : WR w0 (fun b => w.heap.size ≤ b ∨ ∃ t c, t ∈ Y ∧ G.hdr t = some (b, c)) { S with young := Y } G w :=
    ⟨hW.prot, hW.tok, hW.later, hW.hlt, hW.box, hW.more, hW.boxes, hW.rows, hW.apart, hW.size, hW.below, fun t b c ht hh => .inr ⟨t, c, ht, hh⟩, fun b hb => .inl hb, fun t ht => hW.ylt t (hY t ht).1, hW.hall, hW.basep, hW.oldt⟩
  have hAE : ∀ b i, (w.heap.size ≤ b ∨ ∃ t c, t ∈ Y ∧ G.hdr t = some (b, c)) → (G.but Y).prot b i = none := fun b i hb => by
    rcases hb with hb | hb
    · cases hp : (G.but Y).prot b i with
      | none => rfl
      | some v => exact absurd (hW.lt (G.but_le Y b i v hp)) (by omega)
    · unfold Ghost.but
      exact if_pos hb
  have hEG : (G.but Y).Le G := ⟨G.but_le Y, fun _ _ h => h, fun _ _ h => h, rfl⟩
  refine calls_of_wp hf hb (dwp_ok hT (fun _ => hAE) (fun i b hb => (hW.box_lt hb).1) c _ _ _ h _ G _ w hEG hE hW' (fun e ρ' S1 H a' w' hk hfr => ?_))
  obtain ⟨hle, he, hd, hw⟩ := hfr
  have fin : (∃ v, dResults T fn (EV fn.ntmps ρ') S1 = some v ∧ Q v { S1 with young := S1.young ++ S.young }) → ∀ q, q = Exit.normal ∨ q = Exit.ret →
      bodyPost P fn (fun e w' => ∃ v S' vr H, e = .returned vr ∧ (G.but Y).Le H ∧ RepV H v vr ∧ WR w0 A S' H w' ∧ Q v S') q a' w' := by
    rintro ⟨v, hv, hq⟩ q hqq
    obtain ⟨vr, h1, h2⟩ := dResults_ok hT hw he hv
    have hW2 : WR w0 A { S1 with young := S1.young ++ S.young } H w' := by
      have hlift : ∀ t, t ∈ S.young → ∀ b c, H.hdr t = some (b, c) → G.hdr t = some (b, c) := by
        intro t ht b c hh
        obtain ⟨x, hx⟩ := hW.hall t (hW.ylt t ht)
        rw [hle.hdr t x hx] at hh
        cases hh
        exact hx
      refine ⟨hw.prot, hw.tok, hw.later, hw.hlt, hw.box, hw.more, hw.boxes, hw.rows, hw.apart, hw.size, hw.below, fun t b c ht hh => ?_, fun b hb => by
        rcases hw.up b hb with hb | ⟨t', c', ht', hh'⟩
        · exact hW.up b hb
        · exact hW.own t' b c' (hY t' ht').1 hh', fun t ht => ?_, hw.hall, hw.basep, hw.oldt⟩
      · rcases List.mem_append.1 ht with ht | ht
        · rcases hw.own t b c ht hh with hb | ⟨t', c', ht', hh'⟩
          · exact hW.up b hb
          · exact hW.own t' b c' (hY t' ht').1 hh'
        · exact hW.own t b c ht (hlift t ht b c hh)
      · rcases List.mem_append.1 ht with ht | ht
        · exact hw.ylt t ht
        · obtain ⟨x, hx⟩ := hW.hall t (hW.ylt t ht)
          apply Nat.lt_of_not_le
          intro hle2
          have := hle.hdr t x hx
          rw [hw.later t hle2] at this
          cases this
    rcases hqq with rfl | rfl
    · exact ⟨hd, vr, h2, v, _, vr, H, rfl, hle, h1, hW2, hq⟩
    · exact ⟨hd, vr, h2, v, _, vr, H, rfl, hle, h1, hW2, hq⟩
  cases e with
  | normal => exact fin hk _ (.inl rfl)
  | ret => exact fin hk _ (.inr rfl)
  | exit id => exact hk.elim
end
end Go.Den
