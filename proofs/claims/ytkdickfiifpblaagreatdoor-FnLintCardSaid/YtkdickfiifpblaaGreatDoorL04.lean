/- Towards FnLint: Kg, Vi, Vj, Kh, Ki, DenSpot, DenLib, Kk, Shelf, Kl, Km, Vk, DenOld, Kn, Vl, Ko, Kp, Kq. -/
import Derived.Test.YtkdickfiifpblaaGreatDoorL03
import Derived.Test.YtkdickfiifpblaaGreatDoorProg
import Derived.KernelRfl
import Derived.Sort.Grow
import Derived.Lib.RowBridge
import Derived.Shelf.Small.Bits
import Derived.Shelf.Strconv.Itoa0
import Derived.Shelf.Strconv.Itoa1
import Derived.Shelf.LaysM
import Derived.Shelf.Strconv.Itoa2
import Derived.Shelf.Strconv.Itoa3
import Derived.Shelf.Sort.Plain
import Derived.Ground.Names2Prog
import Derived.Shelf.Slices.Clone
import Derived.Shelf.Slices.CompactS
import Derived.Shelf.Slices.Cells
import Derived.Shelf.Slices.In.SortNone
import Derived.Ground.SlgnProg
import Derived.Shelf.SlicesE.Clone
namespace Go.Proofs.YtkdickfiifpblaaGreatDoor.D
open Go Go.Den Go.Proofs
set_option maxRecDepth 100000
variable {w0 : World}
def wordN (k : Int) : BA := if k = 1 then ⟨⟨[117, 110, 117, 115, 101, 100]⟩⟩ else if k = 2 then ⟨⟨[102, 114, 101, 101]⟩⟩ else if k = 3 then ⟨⟨[119, 114, 105, 116, 101]⟩⟩ else ⟨⟨[110, 101, 118, 101, 114]⟩⟩
def lineN (n : Nt) : BA := wordN n.k ++ ⟨⟨[32]⟩⟩ ++ n.name ++ ⟨⟨[10]⟩⟩
def showN (l : List Nt) : BA := l.foldl (fun s n => s ++ lineN n) ⟨⟨[]⟩⟩
theorem showN_app (l : List Nt) (n : Nt) : showN (l ++ [n]) = showN l ++ lineN n := by
  unfold showN
  rw [List.foldl_append]
  rfl
theorem wordN_size (k : Int) : (wordN k).size ≤ 6 := by
  unfold wordN
  split
  · decide
  · split
    · decide
    · split <;> decide
structure NtsOk (l : List Nt) : Prop where
  k : ∀ n, n ∈ l → 1 ≤ n.k ∧ n.k ≤ 4
  name : ∀ n, n ∈ l → n.name.size ≤ 1000000
  len : l.length ≤ 100000
theorem lineN_size {l : List Nt} (h : NtsOk l) {n : Nt} (hn : n ∈ l) : (lineN n).size ≤ 1000010 := by
  have h1 := wordN_size n.k
  have h2 := h.name n hn
  unfold lineN
  simp only [ByteArray.size_append]
  have e1 : (ByteArray.mk (Array.mk [32])).size = 1 := rfl
  have e2 : (ByteArray.mk (Array.mk [10])).size = 1 := rfl
  omega
theorem showN_size : ∀ {l : List Nt}, NtsOk l → ∀ i, i ≤ l.length → (showN (l.take i)).size ≤ i * 1000010
  | l, _, 0, _ => by simp [showN]; decide
  | l, h, i + 1, hi => by
    obtain ⟨a, ha⟩ : ∃ a, l[i]? = some a := ⟨_, List.getElem?_eq_getElem (by omega)⟩
    rw [take_next ha, showN_app, ByteArray.size_append]
    have h1 := showN_size h i (by omega)
    have h2 := lineN_size h (List.mem_of_getElem? ha)
    omega
def iShow (S : St) (x : AL) (l : List Nt) : Nat → KE := fun m env S' L => L = [] ∧ Ext S S' ∧ ∃ i : Nat, env = [(4, .v (int i)), (3, .v (str (showN (l.take i)))), (2, .v (str ⟨⟨[]⟩⟩)), (0, .v (.one x))] ∧ i ≤ l.length ∧ m = l.length - i
theorem ShowNotes_c {x : AL} {l : List Nt} (h : Vw Nt.cells x l) (ho : NtsOk l) : CON w0 11 [.one x] (fun v => v = str (showN l)) := by
  refine Con.of_fn (plans := np) hT hmo (nov := true) (fun v hv => ⟨Tryz.f11, [v], by kernel_rfl, rfl, by subst hv; kernel_rfl⟩) (fun S => ?_)
  rw [v11]
  refine ⟨rfl, [4, 3, 2, 0], iShow S x l, l.length, ⟨rfl, Ext.refl S, 0, rfl, Nat.zero_le _, rfl⟩, ?_⟩
  rintro m env S1 L1 ⟨rfl, hE, i, rfl, hi, rfl⟩
  refine WSem.of hT hmo (nov := true) (plans := np) (f := 1000) ?_
  rw [b11_0]
  have hol := ho.len
  refine ⟨l.length, h.len, fun hlt => ?_, fun hge => ?_⟩
  · have hlt := lt_of_dec hlt
    obtain ⟨a, ha⟩ : ∃ a, l[i]? = some a := ⟨_, List.getElem?_eq_getElem hlt⟩
    have ham := List.mem_of_getElem? ha
    have hk := ho.k a ham
    have hn := ho.name a ham
    have hs := showN_size ho i hi
    have hs2 : i * 1000010 ≤ 100000 * 1000010 := Nat.mul_le_mul_right _ (by omega)
    have e1 : (ByteArray.mk (Array.mk [32])).size = 1 := rfl
    have ew : ∀ w : BA, w.size ≤ 6 → wordN a.k = w → (showN (l.take i)).size + 6 ≤ 9223372036854775807 ∧ ((showN (l.take i)) ++ w).size + 1 ≤ 9223372036854775807 ∧
        (showN (l.take i) ++ w ++ ByteArray.mk (Array.mk [32])).size + a.name.size ≤ 9223372036854775807 ∧ (showN (l.take i) ++ w ++ ByteArray.mk (Array.mk [32]) ++ a.name).size + 1 ≤ 9223372036854775807 ∧
        in64 ((i : Int) + 1) ∧ loopK (iShow S x l) 0 (l.length - i) (KT w0 51 [Kn.blk 0, Kn.seq (CO 11 [1, 1, 1])] (WE Tryz.f11 S.boxes.length (E S fun v => v = str (showN l)))) .normal
          [(4, .v (int ((i : Int) + 1))), (3, .v (str (showN (l.take i) ++ w ++ ByteArray.mk (Array.mk [32]) ++ a.name ++ ByteArray.mk (Array.mk [10])))), (2, .v (str ⟨⟨[]⟩⟩)), (0, .v (.one x))] S1 [] := by
      intro w hw he
      refine ⟨by omega, by rw [ByteArray.size_append]; omega, by simp only [ByteArray.size_append]; omega, by simp only [ByteArray.size_append]; omega, by unfold in64; omega, loopK.again (L' := []) (m' := l.length - (i + 1)) trivial rfl (by omega) ⟨rfl, hE, i + 1, ?_, hlt, rfl⟩⟩
      rw [take_next ha, showN_app]
      unfold lineN
      rw [he]
      simp only [ByteArray.append_assoc]
      rfl
    refine rdI Nt_len h ha (j := 0) (by omega) rfl ⟨fun h1 => ?_, fun h1 => ⟨fun h2 => ?_, fun h2 => ⟨fun h3 => ?_, fun h3 => ⟨fun h4 => ?_, fun h4 => ?_⟩⟩⟩⟩
    · obtain ⟨g1, g2, g3, g4, g5, g6⟩ := ew (ByteArray.mk (Array.mk [117, 110, 117, 115, 101, 100])) (by decide) (by unfold wordN; rw [if_pos (by simpa using h1)])
      exact ⟨g1, g2, rdS Nt_len h ha (j := 1) (by omega) rfl ⟨g3, g4, g5, g6⟩⟩
    · obtain ⟨g1, g2, g3, g4, g5, g6⟩ := ew (ByteArray.mk (Array.mk [102, 114, 101, 101])) (by decide) (by unfold wordN; rw [if_neg (by simpa using h1), if_pos (by simpa using h2)])
      exact ⟨by omega, g2, rdS Nt_len h ha (j := 1) (by omega) rfl ⟨g3, g4, g5, g6⟩⟩
    · obtain ⟨g1, g2, g3, g4, g5, g6⟩ := ew (ByteArray.mk (Array.mk [119, 114, 105, 116, 101])) (by decide) (by unfold wordN; rw [if_neg (by simpa using h1), if_neg (by simpa using h2), if_pos (by simpa using h3)])
      exact ⟨by omega, g2, rdS Nt_len h ha (j := 1) (by omega) rfl ⟨g3, g4, g5, g6⟩⟩
    · obtain ⟨g1, g2, g3, g4, g5, g6⟩ := ew (ByteArray.mk (Array.mk [110, 101, 118, 101, 114])) (by decide) (by unfold wordN; rw [if_neg (by simpa using h1), if_neg (by simpa using h2), if_neg (by simpa using h3)])
      exact ⟨by omega, g2, rdS Nt_len h ha (j := 1) (by omega) rfl ⟨g3, g4, g5, g6⟩⟩
    · exfalso
      simp at h1 h2 h3 h4
      omega
  · have hge := ge_of_dec hge
    refine loopK.exit (L' := []) trivial rfl (kont.of hT hmo (nov := true) (plans := np) (f := 1000) ?_)
    rw [x11_0, take_all hge]
    exact ⟨rfl, hE, rfl⟩
abbrev undef : BA := ⟨#[117, 110, 100, 101, 102]⟩
def freeL (m : Md) : List BA := fm (fun s => decide (s ≠ undef)) id (setOf (freeN m))
def isWr (m : Md) (s : Sm) : Bool := s.k == 3 && memB s.name (locals m)
def writes (m : Md) : List BA := setOf (fm (isWr m) Sm.name m.stmts)
def nevers (m : Md) : List BA := setOf (fm (fun s => !memB s (setOf (uses m))) id (names m))
def lintN (m : Md) : List Nt := nts 1 (setOf (unused m)) ++ nts 2 (freeL m) ++ nts 3 (writes m) ++ nts 4 (nevers m)
def iL0 (S : St) (m : Md) (y : AL) : Nat → KE := fun mm env S' L => L = mL m ∧ ∃ (i : Nat) (r : AL), env = [(5, .v (int i)), (4, .v (.one y)), (3, .v (.one r)), (2, .v (.one .nilsl)), (1, .loc 0 0)] ∧ Grew S S' r ∧ i ≤ (setOf (freeN m)).length ∧ mm = (setOf (freeN m)).length - i ∧
  Row S' 9 1 r (fm (fun s => decide (s ≠ undef)) id ((setOf (freeN m)).take i)).length ((fm (fun s => decide (s ≠ undef)) id ((setOf (freeN m)).take i)).flatMap Rq)
def iL1 (S : St) (m : Md) (x3 : AL) : Nat → KE := fun mm env S' L => L = mL m ∧ ∃ (i : Nat) (r : AL), env = [(7, .v (int i)), (6, .v (.one r)), (3, .v (.one x3)), (2, .v (.one .nilsl)), (1, .loc 0 0)] ∧ Ext S S' ∧ i ≤ m.stmts.length ∧ mm = m.stmts.length - i ∧ Vw Rq r (setOf (fm (isWr m) Sm.name (m.stmts.take i)))
def iL2 (S : St) (m : Md) (x3 x6 x9 x10 : AL) : Nat → KE := fun mm env S' L => L = mL m ∧ ∃ (i : Nat) (r : AL), env = [(11, .v (int i)), (10, .v (.one x10)), (9, .v (.one x9)), (8, .v (.one r)), (6, .v (.one x6)), (3, .v (.one x3)), (2, .v (.one .nilsl)), (1, .loc 0 0)] ∧ Ext S S' ∧ i ≤ (names m).length ∧ mm = (names m).length - i ∧
  Vw Rq r (setOf (fm (fun s => !memB s (setOf (uses m))) id ((names m).take i)))
theorem freeN_len {m : Md} (h : MV m) : (setOf (freeN m)).length ≤ 2000 := by
  refine Nat.le_trans (setOf_len _) ?_
  have a1 := fm_len (freeE (names m ++ locals m)) Er.name m.exprs
  have a2 := fm_len (freeS (names m ++ locals m)) Sm.name m.stmts
  have := h.cx
  have := h.cs
  unfold freeN
  rw [List.length_append]
  omega
theorem Lint_c {m : Md} (h : MV m) : CONP w0 12 [m.av] (fun _ => True) (fun v S => ∃ r, v = .one r ∧ RN S r (lintN m)) := by
  refine ConP.of_gen (plans := pl12) hT hmo (nov := true) (fun _ _ _ _ => trivial) (fun v S S' h ⟨r, h1, h2⟩ => ⟨r, h1, Row.toks h h2⟩) (fun v S hv => by obtain ⟨r, rfl, hr⟩ := hv; exact vshN (fn := Tryz.f12) (by kernel_rfl) (by kernel_rfl) hr) (fun S _ => ?_)
  rw [v12]
  have hci := h.ci
  have hcs := h.cs
  have hfl := freeN_len h
  have hul := uses_len h
  have hnl : (names m).length ≤ 1000 := Nat.le_trans (fm_len _ _ _) hcs
  refine ⟨rfl, _, (FreeNames_c h).use _ _, fun y S0 hR => ?_⟩
  obtain ⟨hE0, y', he, hy⟩ := hR
  cases he
  have hG0 : Grew S S0 (.sl (some S.toks.length) 0 []) := (Grew.born (Ext.refl S) (0, 9, 1)).on hE0
  refine ⟨[5, 4, 3, 2, 1], iL0 S m y, (setOf (freeN m)).length, ⟨rfl, 0, _, rfl, hG0, Nat.zero_le _, rfl, (Row.born S 9 1).ext hE0.2⟩, ?_⟩
  rintro mm env S1 L1 ⟨rfl, i, r, rfl, hG, hi, rfl, hr⟩
  refine WSem.of hT hmo (nov := true) (plans := pl12) (f := 1000) ?_
  rw [b12_0]
  refine ⟨_, hy.len, fun hlt => ?_, fun hge => ?_⟩
  · have hlt := lt_of_dec hlt
    obtain ⟨a, ha⟩ : ∃ a, (setOf (freeN m))[i]? = some a := ⟨_, List.getElem?_eq_getElem hlt⟩
    refine rd1 hy ha ⟨fun hn => rd1 hy ha ?_, fun hn => ?_⟩
    · obtain ⟨r2, S4, g1, g2, g3, g4, g5, g6, g7⟩ := hr.pushS a (Nat.le_trans (fm_len _ _ _) (by rw [List.length_take]; omega)) (1, 9, 1)
      refine ⟨rfl, r2, S4, g1, by unfold in64; omega, loopK.again (L' := mL m) (m' := (setOf (freeN m)).length - (i + 1)) ⟨Nat.zero_lt_one, trivial⟩ rfl (by omega) ⟨rfl, i + 1, r2, rfl, hG.push g3 g4 g5 g6 g7, hlt, rfl, ?_⟩⟩
      rw [fm_yes ha (p := fun s : BA => decide (s ≠ undef)) hn]
      exact g2
    · refine ⟨by unfold in64; omega, loopK.again (L' := mL m) (m' := (setOf (freeN m)).length - (i + 1)) ⟨Nat.zero_lt_one, trivial⟩ rfl (by omega) ⟨rfl, i + 1, r, rfl, hG, hlt, rfl, ?_⟩⟩
      rw [fm_no ha (p := fun s : BA => decide (s ≠ undef)) hn]
      exact hr
  have hge := ge_of_dec hge
  rw [take_all hge] at hr
  have h3 : Vw Rq r (freeL m) := hr.vw
  have hE := hG.ext
  refine loopK.exit (L' := mL m) ⟨Nat.zero_lt_one, trivial⟩ rfl (kont.of hT hmo (nov := true) (plans := pl12) (f := 1000) ?_)
  rw [x12_0]
  clear hi hge hr hG hG0 hE0 hy
  refine ⟨[7, 6, 3, 2, 1], iL1 S m r, m.stmts.length, ⟨rfl, 0, _, rfl, hE.trans (Ext.born S1 _), Nat.zero_le _, rfl, .inr ⟨_, rfl⟩⟩, ?_⟩
  clear hE
  rintro mm env S2 L2 ⟨rfl, i, q, rfl, hE, hi, rfl, hq⟩
  refine WSem.of hT hmo (nov := true) (plans := pl12) (f := 1000) ?_
  rw [b12_1]
  refine ⟨_, h.vs.len, fun hlt => ?_, fun hge => ?_⟩
  · have hlt := lt_of_dec hlt
    obtain ⟨a, ha⟩ : ∃ a, m.stmts[i]? = some a := ⟨_, List.getElem?_eq_getElem hlt⟩
    have hql : (setOf (fm (isWr m) Sm.name (m.stmts.take i))).length ≤ 900000 := Nat.le_trans (setOf_len _) (Nat.le_trans (fm_len _ _ _) (by rw [List.length_take]; omega))
    have no : ∀ S3, Ext S S3 → isWr m a = false → in64 ((i : Int) + 1) ∧ loopK (iL1 S m r) 1 (m.stmts.length - i) (KT w0 105 [Kn.blk 2, Kn.seq (CO 12 [1, 1, 1, 1, 1, 1])] (WE Tryz.f12 S.boxes.length (fun v S' => Bx S S' ∧ ∃ r, v = .one r ∧ RN S' r (lintN m)))) .normal
        [(7, .v (int ((i : Int) + 1))), (6, .v (.one q)), (3, .v (.one r)), (2, .v (.one .nilsl)), (1, .loc 0 0)] S3 (mL m) := fun S3 hE3 hp => by
      refine ⟨by unfold in64; omega, loopK.again (L' := mL m) (m' := m.stmts.length - (i + 1)) ⟨Nat.zero_lt_one, trivial⟩ rfl (by omega) ⟨rfl, i + 1, q, rfl, hE3, hlt, rfl, ?_⟩⟩
      rw [fm_no ha hp]
      exact hq
    have go : (a.k == 3) = true → ∃ R, (realHk Tryz.prog w0 (tabOf Tryz.prog)).1 35 [m.av, str a.name] S2 (mL m) R ∧ ∀ (n : Int) (S1 : St), R (int n) S1 →
        (decide (n ≥ 0) = true → ∃ tok n xs, m.xs = .sl tok n xs ∧ 0 ≤ (i : Int) ∧ (i : Int) < (n : Int) ∧ (∃ x, likeCells [.str ⟨⟨[]⟩⟩] [x] = true ∧ (List.drop 1 (List.drop ((i : Int).toNat * 3) xs))[0]? = some x) ∧ ∀ (s : ByteArray), (List.drop 1 (List.drop ((i : Int).toNat * 3) xs))[0]? = some (.str s) →
          ∃ R, (realHk Tryz.prog w0 (tabOf Tryz.prog)).1 32 [.one q, str s] S1 (mL m) R ∧ ∀ (x : AL) (S3 : St), R (.one x) S3 → in64 ((i : Int) + 1) ∧ loopK (iL1 S m r) 1 (m.stmts.length - i) (KT w0 105 [Kn.blk 2, Kn.seq (CO 12 [1, 1, 1, 1, 1, 1])] (WE Tryz.f12 S.boxes.length (fun v S' => Bx S S' ∧ ∃ r, v = .one r ∧ RN S' r (lintN m)))) .normal
            [(7, .v (int ((i : Int) + 1))), (6, .v (.one x)), (3, .v (.one r)), (2, .v (.one .nilsl)), (1, .loc 0 0)] S3 (mL m)) ∧
        (decide (n ≥ 0) = false → in64 ((i : Int) + 1) ∧ loopK (iL1 S m r) 1 (m.stmts.length - i) (KT w0 105 [Kn.blk 2, Kn.seq (CO 12 [1, 1, 1, 1, 1, 1])] (WE Tryz.f12 S.boxes.length (fun v S' => Bx S S' ∧ ∃ r, v = .one r ∧ RN S' r (lintN m)))) .normal
            [(7, .v (int ((i : Int) + 1))), (6, .v (.one q)), (3, .v (.one r)), (2, .v (.one .nilsl)), (1, .loc 0 0)] S1 (mL m)) := fun hk => by
      refine ⟨_, (l6Imp_c h a.name).use S2 _, fun n S3 hR => ?_⟩
      obtain ⟨hE3, n', he, hn⟩ := hR
      cases he
      refine ⟨fun h0 => rdS Sm_len h.vs ha (j := 1) (by omega) rfl ⟨_, (l8Put_c a.name hq hql).use S3 _, fun x S4 hR => ?_⟩, fun h0 => no S3 (hE.trans hE3) ?_⟩
      · obtain ⟨hE4, r2, he, hr2⟩ := hR
        cases he
        refine ⟨by unfold in64; omega, loopK.again (L' := mL m) (m' := m.stmts.length - (i + 1)) ⟨Nat.zero_lt_one, trivial⟩ rfl (by omega) ⟨rfl, i + 1, x, rfl, (hE.trans hE3).trans hE4, hlt, rfl, ?_⟩⟩
        rw [fm_yes ha (p := isWr m) (by show (_ && _) = true; rw [hk, ← hn, h0]; rfl), ← set_app]
        exact hr2
      · show (_ && _) = false
        rw [← hn, h0, Bool.and_false]
    have rd := fun {H : BA → Prop} (hH : H a.name) => rdS Sm_len h.vs ha (j := 1) (by omega) rfl hH
    have no2 : (a.k == 3) = false → isWr m a = false := fun hk => by show (_ && _) = false; rw [hk]; rfl
    obtain ⟨tok, n, xs, g1, g2, g3, g4, g5⟩ := rdI Sm_len h.vs ha (j := 0) (by omega) rfl (H := fun b => b = a.k) rfl
    refine ⟨rfl, ⟨tok, n, xs, g1, g2, g3, ⟨g4, fun b hb => ?_⟩, trivial⟩, trivial⟩
    obtain rfl := g5 b hb
    refine ⟨fun hk => ⟨⟨?_, trivial⟩, ?_, trivial⟩, fun hk => ⟨⟨⟨⟨no S2 hE (no2 hk), trivial⟩, trivial⟩, trivial⟩, ⟨⟨⟨no S2 hE (no2 hk), trivial⟩, trivial⟩, ⟨⟨no S2 hE (no2 hk), trivial⟩, trivial⟩, trivial⟩, trivial⟩⟩
    · obtain ⟨tok, n, xs, k1, k2, k3, k4, k5⟩ := rd (H := fun b => b = a.name) rfl
      refine ⟨tok, n, xs, k1, k2, k3, ⟨k4, fun b hb => ?_⟩, trivial⟩
      obtain rfl := k5 b hb
      exact ⟨go hk, trivial⟩
    · obtain ⟨tok, n, xs, k1, k2, k3, k4, k5⟩ := rd (H := fun b => b = a.name) rfl
      refine ⟨tok, n, xs, k1, k2, k3, ⟨⟨k4, fun b hb => ?_⟩, trivial⟩, ⟨k4, fun b hb => ?_⟩, trivial⟩
      · obtain rfl := k5 b hb
        exact ⟨go hk, trivial⟩
      · obtain rfl := k5 b hb
        exact ⟨⟨go hk, trivial⟩, trivial⟩
  have hge := ge_of_dec hge
  rw [take_all hge] at hq
  refine loopK.exit (L' := mL m) ⟨Nat.zero_lt_one, trivial⟩ rfl (kont.of hT hmo (nov := true) (plans := pl12) (f := 1000) ?_)
  rw [x12_1]
  clear hi hge
  refine ⟨_, (Uses_c h).use _ _, fun z S3 hR => ?_⟩
  obtain ⟨hE3, z', he, hz⟩ := hR
  cases he
  refine ⟨_, (l6Names_c h).use _ _, fun u S4 hR => ?_⟩
  obtain ⟨hE4, u', he, hu, _⟩ := hR
  cases he
  have hu := hu.vw
  refine ⟨[11, 10, 9, 8, 6, 3, 2, 1], iL2 S m r q z u, (names m).length, ⟨rfl, 0, _, rfl, ((hE.trans (Ext.born S2 _)).trans hE3).trans hE4, Nat.zero_le _, rfl, .inr ⟨_, rfl⟩⟩, ?_⟩
  clear hE hE3 hE4
  rintro mm env S5 L5 ⟨rfl, i, p, rfl, hE, hi, rfl, hp⟩
  refine WSem.of hT hmo (nov := true) (plans := pl12) (f := 1000) ?_
  rw [b12_2]
  refine ⟨_, hu.len, fun hlt => ?_, fun hge => ?_⟩
  · have hlt := lt_of_dec hlt
    obtain ⟨a, ha⟩ : ∃ a, (names m)[i]? = some a := ⟨_, List.getElem?_eq_getElem hlt⟩
    refine rd1 hu ha ⟨_, (l6In_c a hz (by omega)).use S5 _, fun b S6 hR => ?_⟩
    obtain ⟨hE6, hb⟩ := hR
    cases hb
    refine ⟨fun hb => rd1 hu ha ⟨_, (l8Put_c a hp (Nat.le_trans (setOf_len _) (Nat.le_trans (fm_len _ _ _) (by rw [List.length_take]; omega)))).use S6 _, fun x S7 hR => ?_⟩, fun hb => ?_⟩
    · obtain ⟨hE7, r2, he, hr2⟩ := hR
      cases he
      refine ⟨by unfold in64; omega, loopK.again (L' := mL m) (m' := (names m).length - (i + 1)) ⟨Nat.zero_lt_one, trivial⟩ rfl (by omega) ⟨rfl, i + 1, x, rfl, (hE.trans hE6).trans hE7, hlt, rfl, ?_⟩⟩
      rw [fm_yes ha (p := fun s : BA => !memB s (setOf (uses m))) hb, ← set_app]
      exact hr2
    · refine ⟨by unfold in64; omega, loopK.again (L' := mL m) (m' := (names m).length - (i + 1)) ⟨Nat.zero_lt_one, trivial⟩ rfl (by omega) ⟨rfl, i + 1, p, rfl, hE.trans hE6, hlt, rfl, ?_⟩⟩
      rw [fm_no ha (p := fun s : BA => !memB s (setOf (uses m))) hb]
      exact hp
  have hge := ge_of_dec hge
  rw [take_all hge] at hp
  refine loopK.exit (L' := mL m) ⟨Nat.zero_lt_one, trivial⟩ rfl (kont.of hT hmo (nov := true) (plans := pl12) (f := 1000) ?_)
  rw [x12_2]
  have l1 : (setOf (unused m)).length ≤ 1000 := Nat.le_trans (setOf_len _) (Nat.le_trans (fm_len _ _ _) hci)
  have l2 : (freeL m).length ≤ 2000 := Nat.le_trans (fm_len _ _ _) hfl
  have l3 : (writes m).length ≤ 1000 := Nat.le_trans (setOf_len _) (Nat.le_trans (fm_len _ _ _) hcs)
  have l4 : (nevers m).length ≤ 1000 := Nat.le_trans (setOf_len _) (Nat.le_trans (fm_len _ _ _) hnl)
  have ln : ∀ (k : Int) (l : List BA), (nts k l).length = l.length := fun k l => List.length_map _
  refine ⟨_, (Unused_c h).use _ _, fun x1 S6 hR => ?_⟩
  obtain ⟨hE6, x1', he, hx1⟩ := hR
  cases he
  refine ⟨_, (l25Put_c 1 hx1 (by omega) (l0 := []) (Nat.zero_le _)).use S6 _ ((Row.born S5 36 2).ext hE6.2), fun o1 S7 hR => ?_⟩
  obtain ⟨hB7, o1', he, ho1⟩ := hR
  cases he
  refine ⟨_, (l25Put_c 2 h3 (by omega) (by simp only [List.length_append, ln, List.length_nil]; omega)).use S7 _ ho1, fun o2 S8 hR => ?_⟩
  obtain ⟨hB8, o2', he, ho2⟩ := hR
  cases he
  refine ⟨_, (l25Put_c 3 hq (Nat.le_trans l3 (by omega)) (by simp only [List.length_append, ln, List.length_nil]; omega)).use S8 _ ho2, fun o3 S9 hR => ?_⟩
  obtain ⟨hB9, o3', he, ho3⟩ := hR
  cases he
  refine ⟨_, (l25Put_c 4 hp (Nat.le_trans l4 (by omega)) (by
    have : (setOf (fm (isWr m) Sm.name m.stmts)).length ≤ 1000 := l3
    simp only [List.length_append, ln, List.length_nil]; omega)).use S9 _ ho3, fun o4 S10 hR => ?_⟩
  obtain ⟨hB10, o4', he, ho4⟩ := hR
  cases he
  refine ⟨rfl, ((((hE.trans (Ext.born S5 _)).trans hE6).bx.trans hB7).trans hB8).trans (hB9.trans hB10), o4, rfl, ?_⟩
  exact ho4
end Go.Proofs.YtkdickfiifpblaaGreatDoor.D
namespace Go.Proofs.YtkdickfiifpblaaGreatDoor.D
open Go Go.Den Go.Proofs
theorem v44 : ∀ (hk : Hk) (plans : Nat->Plan) (x0_0 x0_1 x0_2 x0_3 x0_4 : AL) (S : St) (Q : AV->St->Prop),wFn (Cf.of true) hk Tryz.prog (tabOf Tryz.prog) plans false 44 [.agg [x0_0,x0_1,x0_2,x0_3,x0_4]] S Q=(true=true/\∃ n,x0_4.len?=some n/\hk.2 47 (codeOf Tryz.prog 44 [1,1,0,1,0,0]) [.blk 0,.seq (codeOf Tryz.prog 44 [1,1,1])] (wEnd (tabOf Tryz.prog) Tryz.f44 false
 S.boxes.length Q) [(12,.v (.one (.i 0))),(11,.v (.one (.i (↑n : Int)))),(10,.v (.one x0_4)),(9,.loc 0 4),(3,.v (.one (.sl (some S.toks.length) 0 []))),(8,.v (.one (.sl (some S.toks.length) 0 []))),(2,.v (.one .nilsl)),(1,.loc 0 0),(0,.v (.agg [x0_0,x0_1,x0_2,x0_3,x0_4]))] (S.born (0,9,1))
 [(30,[x0_0,x0_1,x0_2,x0_3,x0_4])])
 := by intros; kernel_rfl
theorem b44_0 : ∀ (hk : Hk) (plans : Nat->Plan) (x0_4 : AL) (n : Nat) (n12 : Int) (x3 xL0_0 xL0_1 xL0_2 xL0_3 xL0_4 : AL) (S : St) (K : QW),wCode (Cf.of true) hk Tryz.prog (tabOf Tryz.prog) 47 plans 1000 (codeOf Tryz.prog 44 [1,1,0,1,0,0]) [] (fun e env S L => K e (restr [12,11,10,3,2,1] env) S L) [(12,.v (.one (.i n12))),(11,.v (.one (.i (↑n : Int)))),(10,.v (.one x0_4)),(3,.v
 (.one x3)),(2,.v (.one .nilsl)),(1,.loc 0 0)] S [(30,[xL0_0,xL0_1,xL0_2,xL0_3,xL0_4])]=((decide (n12 < (↑n : Int))=true->∃ tok n_1 xs,x0_4=.sl tok n_1 xs/\0<=n12/\n12 < (↑n_1 : Int)/\true=true/\(∃ xs_1,likeCells [.i 0,.i 0,.str k_,.str k_,.i 0,.i 0] xs_1=true/\List.take 6 (List.drop (n12.toNat * 6) xs)=xs_1)/\∀ (n_2 n_3 : Int) (s s_1 : ByteArray) (n_4 n_5 : Int),List.take 6
 (List.drop (n12.toNat * 6) xs)=[.i n_2,.i n_3,.str s,.str s_1,.i n_4,.i n_5]->((n_2 == 2)=true->24=24/\∃ r S',dAppend2 (tabOf Tryz.prog) 24 x3 (.sl (some S.toks.length) 1 [.str s]) (S.born (1,9,1))=some (r,S')/\in64 (n12 + 1)/\K .normal [(12,.v (.one (.i (n12 + 1)))),(11,.v (.one (.i (↑n : Int)))),(10,.v (.one x0_4)),(3,.v (.one r)),(2,.v (.one .nilsl)),(1,.loc 0 0)] S'
 [(30,[xL0_0,xL0_1,xL0_2,xL0_3,xL0_4]),(59,[.i n_2,.i n_3,.str s,.str s_1,.i n_4,.i n_5])])/\((n_2 == 2)=false->((n_2 == 3)=true->24=24/\∃ r S',dAppend2 (tabOf Tryz.prog) 24 x3 (.sl (some S.toks.length) 1 [.str s]) (S.born (1,9,1))=some (r,S')/\in64 (n12 + 1)/\K .normal [(12,.v (.one (.i (n12 + 1)))),(11,.v (.one (.i (↑n : Int)))),(10,.v (.one x0_4)),(3,.v (.one r)),(2,.v (.one
 .nilsl)),(1,.loc 0 0)] S' [(30,[xL0_0,xL0_1,xL0_2,xL0_3,xL0_4]),(59,[.i n_2,.i n_3,.str s,.str s_1,.i n_4,.i n_5])])/\((n_2 == 3)=false->in64 (n12 + 1)/\K .normal [(12,.v (.one (.i (n12 + 1)))),(11,.v (.one (.i (↑n : Int)))),(10,.v (.one x0_4)),(3,.v (.one x3)),(2,.v (.one .nilsl)),(1,.loc 0 0)] S [(30,[xL0_0,xL0_1,xL0_2,xL0_3,xL0_4]),(59,[.i n_2,.i n_3,.str s,.str s_1,.i
 n_4,.i n_5])])))/\(decide (n12 < (↑n : Int))=false->K (.exit 0) [(12,.v (.one (.i n12))),(11,.v (.one (.i (↑n : Int)))),(10,.v (.one x0_4)),(3,.v (.one x3)),(2,.v (.one .nilsl)),(1,.loc 0 0)] S
 [(30,[xL0_0,xL0_1,xL0_2,xL0_3,xL0_4])]))
 := by intros; kernel_rfl
theorem x44_0 : ∀ (hk : Hk) (plans : Nat->Plan) (x0_4 : AL) (S : St) (Q : AV->St->Prop) (n : Nat) (n12 : Int) (x3 xL0_0 xL0_1 xL0_2 xL0_3 xL0_4 : AL) (S_1 : St),wCode.wEx (Cf.of true) hk Tryz.prog (tabOf Tryz.prog) 47 plans 1000 (.exit 0) [.blk 0,.seq (codeOf Tryz.prog 44 [1,1,1])] (wEnd (tabOf Tryz.prog) Tryz.f44 false S.boxes.length Q) [(12,.v (.one (.i n12))),(11,.v (.one
 (.i (↑n : Int)))),(10,.v (.one x0_4)),(3,.v (.one x3)),(2,.v (.one .nilsl)),(1,.loc 0 0)] S_1 [(30,[xL0_0,xL0_1,xL0_2,xL0_3,xL0_4])]=∃ n_1,xL0_3.len?=some n_1/\hk.2 47 (codeOf Tryz.prog 44 [1,1,1,0,1,0,0]) [.blk 2,.seq (codeOf Tryz.prog 44 [1,1,1,1])] (wEnd (tabOf Tryz.prog) Tryz.f44 false S.boxes.length Q) [(33,.v (.one (.i 0))),(32,.v (.one (.i (↑n_1 : Int)))),(31,.v (.one
 xL0_3)),(30,.loc 0 3),(12,.v (.one (.i n12))),(11,.v (.one (.i (↑n : Int)))),(10,.v (.one x0_4)),(3,.v (.one x3)),(2,.v (.one .nilsl)),(1,.loc 0 0)] S_1
 [(30,[xL0_0,xL0_1,xL0_2,xL0_3,xL0_4])]
 := by intros; kernel_rfl
theorem b44_1 : ∀ (hk : Hk) (plans : Nat->Plan) (xL0_3 : AL) (n : Nat) (n33 : Int) (x3 xL0_0 xL0_1 xL0_2 xL0_3_1 xL0_4 : AL) (S : St) (K : QW),wCode (Cf.of true) hk Tryz.prog (tabOf Tryz.prog) 47 plans 1000 (codeOf Tryz.prog 44 [1,1,1,0,1,0,0]) [] (fun e env S L => K e (restr [33,32,31,3,2] env) S L) [(33,.v (.one (.i n33))),(32,.v (.one (.i (↑n : Int)))),(31,.v (.one
 xL0_3)),(3,.v (.one x3)),(2,.v (.one .nilsl))] S [(30,[xL0_0,xL0_1,xL0_2,xL0_3_1,xL0_4])]=((decide (n33 < (↑n : Int))=true->∃ tok n_1 xs,xL0_3=.sl tok n_1 xs/\0<=n33/\n33 < (↑n_1 : Int)/\true=true/\(∃ xs_1,likeCells [.i 0,.str k_,.i 0] xs_1=true/\List.take 3 (List.drop (n33.toNat * 3) xs)=xs_1)/\∀ (n_2 : Int) (s : ByteArray) (n_3 : Int),List.take 3 (List.drop (n33.toNat * 3)
 xs)=[.i n_2,.str s,.i n_3]->((n_2 == 3)=true->24=24/\∃ r S',dAppend2 (tabOf Tryz.prog) 24 x3 (.sl (some S.toks.length) 1 [.str s]) (S.born (1,9,1))=some (r,S')/\in64 (n33 + 1)/\K .normal [(33,.v (.one (.i (n33 + 1)))),(32,.v (.one (.i (↑n : Int)))),(31,.v (.one xL0_3)),(3,.v (.one r)),(2,.v (.one .nilsl))] S' [(30,[xL0_0,xL0_1,xL0_2,xL0_3_1,xL0_4]),(46,[.i n_2,.str s,.i
 n_3])])/\((n_2 == 3)=false->in64 (n33 + 1)/\K .normal [(33,.v (.one (.i (n33 + 1)))),(32,.v (.one (.i (↑n : Int)))),(31,.v (.one xL0_3)),(3,.v (.one x3)),(2,.v (.one .nilsl))] S [(30,[xL0_0,xL0_1,xL0_2,xL0_3_1,xL0_4]),(46,[.i n_2,.str s,.i n_3])]))/\(decide (n33 < (↑n : Int))=false->K (.exit 2) [(33,.v (.one (.i n33))),(32,.v (.one (.i (↑n : Int)))),(31,.v (.one xL0_3)),(3,.v
 (.one x3)),(2,.v (.one .nilsl))] S
 [(30,[xL0_0,xL0_1,xL0_2,xL0_3_1,xL0_4])]))
 := by intros; kernel_rfl
theorem x44_1 : ∀ (hk : Hk) (plans : Nat->Plan) (S : St) (Q : AV->St->Prop) (xL0_3 : AL) (n : Nat) (n33 : Int) (x3 xL0_0 xL0_1 xL0_2 xL0_3_1 xL0_4 : AL) (S_1 : St),wCode.wEx (Cf.of true) hk Tryz.prog (tabOf Tryz.prog) 47 plans 1000 (.exit 2) [.blk 2,.seq (codeOf Tryz.prog 44 [1,1,1,1])] (wEnd (tabOf Tryz.prog) Tryz.f44 false S.boxes.length Q) [(33,.v (.one (.i n33))),(32,.v
 (.one (.i (↑n : Int)))),(31,.v (.one xL0_3)),(3,.v (.one x3)),(2,.v (.one .nilsl))] S_1 [(30,[xL0_0,xL0_1,xL0_2,xL0_3_1,xL0_4])]=(true=true/\Q (.one x3)
 S_1)
 := by intros; kernel_rfl
theorem v45 : ∀ (hk : Hk) (plans : Nat->Plan) (x0_0 x0_1 x0_2 x0_3 x0_4 : AL) (S : St) (Q : AV->St->Prop),wFn (Cf.of true) hk Tryz.prog (tabOf Tryz.prog) plans false 45 [.agg [x0_0,x0_1,x0_2,x0_3,x0_4]] S Q=(true=true/\∃ n,x0_4.len?=some n/\hk.2 29 (codeOf Tryz.prog 45 [1,1,0,1,0,0]) [.blk 0,.seq (codeOf Tryz.prog 45 [1,1,1])] (wEnd (tabOf Tryz.prog) Tryz.f45 false
 S.boxes.length Q) [(10,.v (.one (.i 0))),(9,.v (.one (.i (↑n : Int)))),(8,.v (.one x0_4)),(7,.loc 0 4),(3,.v (.one (.sl (some S.toks.length) 0 []))),(6,.v (.one (.sl (some S.toks.length) 0 []))),(2,.v (.one .nilsl)),(1,.loc 0 0),(0,.v (.agg [x0_0,x0_1,x0_2,x0_3,x0_4]))] (S.born (0,9,1))
 [(30,[x0_0,x0_1,x0_2,x0_3,x0_4])])
 := by intros; kernel_rfl
theorem b45_0 : ∀ (hk : Hk) (plans : Nat->Plan) (x0_4 : AL) (n : Nat) (n10 : Int) (x3 xL0_0 xL0_1 xL0_2 xL0_3 xL0_4 : AL) (S : St) (K : QW),wCode (Cf.of true) hk Tryz.prog (tabOf Tryz.prog) 29 plans 1000 (codeOf Tryz.prog 45 [1,1,0,1,0,0]) [] (fun e env S L => K e (restr [10,9,8,3,2] env) S L) [(10,.v (.one (.i n10))),(9,.v (.one (.i (↑n : Int)))),(8,.v (.one x0_4)),(3,.v (.one
 x3)),(2,.v (.one .nilsl))] S [(30,[xL0_0,xL0_1,xL0_2,xL0_3,xL0_4])]=((decide (n10 < (↑n : Int))=true->∃ tok n_1 xs,x0_4=.sl tok n_1 xs/\0<=n10/\n10 < (↑n_1 : Int)/\true=true/\(∃ xs_1,likeCells [.i 0,.i 0,.str k_,.str k_,.i 0,.i 0] xs_1=true/\List.take 6 (List.drop (n10.toNat * 6) xs)=xs_1)/\∀ (n_2 n_3 : Int) (s s_1 : ByteArray) (n_4 n_5 : Int),List.take 6 (List.drop (n10.toNat
 * 6) xs)=[.i n_2,.i n_3,.str s,.str s_1,.i n_4,.i n_5]->((n_2 == 4)=true->24=24/\∃ r S',dAppend2 (tabOf Tryz.prog) 24 x3 (.sl (some S.toks.length) 1 [.str s]) (S.born (1,9,1))=some (r,S')/\in64 (n10 + 1)/\K .normal [(10,.v (.one (.i (n10 + 1)))),(9,.v (.one (.i (↑n : Int)))),(8,.v (.one x0_4)),(3,.v (.one r)),(2,.v (.one .nilsl))] S'
 [(30,[xL0_0,xL0_1,xL0_2,xL0_3,xL0_4]),(59,[.i n_2,.i n_3,.str s,.str s_1,.i n_4,.i n_5])])/\((n_2 == 4)=false->((n_2 == 5)=true->24=24/\∃ r S',dAppend2 (tabOf Tryz.prog) 24 x3 (.sl (some S.toks.length) 1 [.str s]) (S.born (1,9,1))=some (r,S')/\in64 (n10 + 1)/\K .normal [(10,.v (.one (.i (n10 + 1)))),(9,.v (.one (.i (↑n : Int)))),(8,.v (.one x0_4)),(3,.v (.one r)),(2,.v (.one
 .nilsl))] S' [(30,[xL0_0,xL0_1,xL0_2,xL0_3,xL0_4]),(59,[.i n_2,.i n_3,.str s,.str s_1,.i n_4,.i n_5])])/\((n_2 == 5)=false->in64 (n10 + 1)/\K .normal [(10,.v (.one (.i (n10 + 1)))),(9,.v (.one (.i (↑n : Int)))),(8,.v (.one x0_4)),(3,.v (.one x3)),(2,.v (.one .nilsl))] S [(30,[xL0_0,xL0_1,xL0_2,xL0_3,xL0_4]),(59,[.i n_2,.i n_3,.str s,.str s_1,.i n_4,.i n_5])])))/\(decide (n10 <
 (↑n : Int))=false->K (.exit 0) [(10,.v (.one (.i n10))),(9,.v (.one (.i (↑n : Int)))),(8,.v (.one x0_4)),(3,.v (.one x3)),(2,.v (.one .nilsl))] S
 [(30,[xL0_0,xL0_1,xL0_2,xL0_3,xL0_4])]))
 := by intros; kernel_rfl
theorem x45_0 : ∀ (hk : Hk) (plans : Nat->Plan) (x0_4 : AL) (S : St) (Q : AV->St->Prop) (n : Nat) (n10 : Int) (x3 xL0_0 xL0_1 xL0_2 xL0_3 xL0_4 : AL) (S_1 : St),wCode.wEx (Cf.of true) hk Tryz.prog (tabOf Tryz.prog) 29 plans 1000 (.exit 0) [.blk 0,.seq (codeOf Tryz.prog 45 [1,1,1])] (wEnd (tabOf Tryz.prog) Tryz.f45 false S.boxes.length Q) [(10,.v (.one (.i n10))),(9,.v (.one (.i
 (↑n : Int)))),(8,.v (.one x0_4)),(3,.v (.one x3)),(2,.v (.one .nilsl))] S_1 [(30,[xL0_0,xL0_1,xL0_2,xL0_3,xL0_4])]=(true=true/\Q (.one x3)
 S_1)
 := by intros; kernel_rfl
theorem v46 : ∀ (hk : Hk) (plans : Nat->Plan) (x0_0 x0_1 x0_2 x0_3 x0_4 : AL) (S : St) (Q : AV->St->Prop),wFn (Cf.of true) hk Tryz.prog (tabOf Tryz.prog) plans false 46 [.agg [x0_0,x0_1,x0_2,x0_3,x0_4]] S Q=(true=true/\∃ n,x0_2.len?=some n/\hk.2 24 (codeOf Tryz.prog 46 [1,1,0,1,0,0]) [.blk 0,.seq (codeOf Tryz.prog 46 [1,1,1])] (wEnd (tabOf Tryz.prog) Tryz.f46 false
 S.boxes.length Q) [(10,.v (.one (.i 0))),(9,.v (.one (.i (↑n : Int)))),(8,.v (.one x0_2)),(7,.loc 0 2),(3,.v (.one (.sl (some S.toks.length) 0 []))),(6,.v (.one (.sl (some S.toks.length) 0 []))),(2,.v (.one .nilsl)),(1,.loc 0 0),(0,.v (.agg [x0_0,x0_1,x0_2,x0_3,x0_4]))] (S.born (0,9,1))
 [(30,[x0_0,x0_1,x0_2,x0_3,x0_4])])
 := by intros; kernel_rfl
theorem b46_0 : ∀ (hk : Hk) (plans : Nat->Plan) (x0_2 : AL) (n : Nat) (n10 : Int) (x3 xL0_0 xL0_1 xL0_2 xL0_3 xL0_4 : AL) (S : St) (K : QW),wCode (Cf.of true) hk Tryz.prog (tabOf Tryz.prog) 24 plans 1000 (codeOf Tryz.prog 46 [1,1,0,1,0,0]) [] (fun e env S L => K e (restr [10,9,8,3,2] env) S L) [(10,.v (.one (.i n10))),(9,.v (.one (.i (↑n : Int)))),(8,.v (.one x0_2)),(3,.v (.one
 x3)),(2,.v (.one .nilsl))] S [(30,[xL0_0,xL0_1,xL0_2,xL0_3,xL0_4])]=((decide (n10 < (↑n : Int))=true->∃ tok n_1 xs,x0_2=.sl tok n_1 xs/\0<=n10/\n10 < (↑n_1 : Int)/\true=true/\(∃ xs_1,likeCells [.i 0,.str k_,.str k_,.str k_] xs_1=true/\List.take 4 (List.drop (n10.toNat * 4) xs)=xs_1)/\∀ (n_2 : Int) (s s_1 s_2 : ByteArray),List.take 4 (List.drop (n10.toNat * 4) xs)=[.i n_2,.str
 s,.str s_1,.str s_2]->((n_2 == 1)=true->24=24/\∃ r S',dAppend2 (tabOf Tryz.prog) 24 x3 (.sl (some S.toks.length) 1 [.str s_1]) (S.born (1,9,1))=some (r,S')/\in64 (n10 + 1)/\K .normal [(10,.v (.one (.i (n10 + 1)))),(9,.v (.one (.i (↑n : Int)))),(8,.v (.one x0_2)),(3,.v (.one r)),(2,.v (.one .nilsl))] S' [(30,[xL0_0,xL0_1,xL0_2,xL0_3,xL0_4]),(72,[.i n_2,.str s,.str s_1,.str
 s_2])])/\((n_2 == 1)=false->in64 (n10 + 1)/\K .normal [(10,.v (.one (.i (n10 + 1)))),(9,.v (.one (.i (↑n : Int)))),(8,.v (.one x0_2)),(3,.v (.one x3)),(2,.v (.one .nilsl))] S [(30,[xL0_0,xL0_1,xL0_2,xL0_3,xL0_4]),(72,[.i n_2,.str s,.str s_1,.str s_2])]))/\(decide (n10 < (↑n : Int))=false->K (.exit 0) [(10,.v (.one (.i n10))),(9,.v (.one (.i (↑n : Int)))),(8,.v (.one
 x0_2)),(3,.v (.one x3)),(2,.v (.one .nilsl))] S
 [(30,[xL0_0,xL0_1,xL0_2,xL0_3,xL0_4])]))
 := by intros; kernel_rfl
theorem x46_0 : ∀ (hk : Hk) (plans : Nat->Plan) (x0_2 : AL) (S : St) (Q : AV->St->Prop) (n : Nat) (n10 : Int) (x3 xL0_0 xL0_1 xL0_2 xL0_3 xL0_4 : AL) (S_1 : St),wCode.wEx (Cf.of true) hk Tryz.prog (tabOf Tryz.prog) 24 plans 1000 (.exit 0) [.blk 0,.seq (codeOf Tryz.prog 46 [1,1,1])] (wEnd (tabOf Tryz.prog) Tryz.f46 false S.boxes.length Q) [(10,.v (.one (.i n10))),(9,.v (.one (.i
 (↑n : Int)))),(8,.v (.one x0_2)),(3,.v (.one x3)),(2,.v (.one .nilsl))] S_1 [(30,[xL0_0,xL0_1,xL0_2,xL0_3,xL0_4])]=(true=true/\Q (.one x3)
 S_1)
 := by intros; kernel_rfl
theorem v51 : ∀ (hk : Hk) (plans : Nat->Plan) (x0_0 x0_1 x0_2 x0_3 x0_4 : AL) (S : St) (Q : AV->St->Prop),wFn (Cf.of true) hk Tryz.prog (tabOf Tryz.prog) plans false 51 [.agg [x0_0,x0_1,x0_2,x0_3,x0_4]] S Q=(true=true/\∃ n,x0_1.len?=some n/\hk.2 49 (codeOf Tryz.prog 51 [1,1,0,1,0,0]) [.blk 0,.seq (codeOf Tryz.prog 51 [1,1,1])] (wEnd (tabOf Tryz.prog) Tryz.f51 false
 S.boxes.length Q) [(12,.v (.one (.i 0))),(11,.v (.one (.i (↑n : Int)))),(10,.v (.one x0_1)),(9,.loc 0 1),(3,.v (.one (.sl (some S.toks.length) 0 []))),(8,.v (.one (.sl (some S.toks.length) 0 []))),(2,.v (.one .nilsl)),(1,.loc 0 0),(0,.v (.agg [x0_0,x0_1,x0_2,x0_3,x0_4]))] (S.born (0,9,1))
 [(30,[x0_0,x0_1,x0_2,x0_3,x0_4])])
 := by intros; kernel_rfl
theorem b51_0 : ∀ (hk : Hk) (plans : Nat->Plan) (x0_1 : AL) (n : Nat) (n12 : Int) (x3 xL0_0 xL0_1 xL0_2 xL0_3 xL0_4 : AL) (S : St) (K : QW),wCode (Cf.of true) hk Tryz.prog (tabOf Tryz.prog) 49 plans 1000 (codeOf Tryz.prog 51 [1,1,0,1,0,0]) [] (fun e env S L => K e (restr [12,11,10,3,2,1] env) S L) [(12,.v (.one (.i n12))),(11,.v (.one (.i (↑n : Int)))),(10,.v (.one x0_1)),(3,.v
 (.one x3)),(2,.v (.one .nilsl)),(1,.loc 0 0)] S [(30,[xL0_0,xL0_1,xL0_2,xL0_3,xL0_4])]=((decide (n12 < (↑n : Int))=true->∃ tok n_1 xs,x0_1=.sl tok n_1 xs/\0<=n12/\n12 < (↑n_1 : Int)/\true=true/\(∃ xs_1,likeCells [.str k_,.str k_,.str k_] xs_1=true/\List.take 3 (List.drop (n12.toNat * 3) xs)=xs_1)/\∀ (s s_1 s_2 : ByteArray),List.take 3 (List.drop (n12.toNat * 3) xs)=[.str s,.str
 s_1,.str s_2]->24=24/\∃ r S',dAppend2 (tabOf Tryz.prog) 24 x3 (.sl (some S.toks.length) 1 [.str s_2]) (S.born (1,9,1))=some (r,S')/\in64 (n12 + 1)/\K .normal [(12,.v (.one (.i (n12 + 1)))),(11,.v (.one (.i (↑n : Int)))),(10,.v (.one x0_1)),(3,.v (.one r)),(2,.v (.one .nilsl)),(1,.loc 0 0)] S' [(30,[xL0_0,xL0_1,xL0_2,xL0_3,xL0_4]),(48,[.str s,.str s_1,.str s_2])])/\(decide (n12
 < (↑n : Int))=false->K (.exit 0) [(12,.v (.one (.i n12))),(11,.v (.one (.i (↑n : Int)))),(10,.v (.one x0_1)),(3,.v (.one x3)),(2,.v (.one .nilsl)),(1,.loc 0 0)] S
 [(30,[xL0_0,xL0_1,xL0_2,xL0_3,xL0_4])]))
 := by intros; kernel_rfl
theorem x51_0 : ∀ (hk : Hk) (plans : Nat->Plan) (x0_1 : AL) (S : St) (Q : AV->St->Prop) (n : Nat) (n12 : Int) (x3 xL0_0 xL0_1 xL0_2 xL0_3 xL0_4 : AL) (S_1 : St),wCode.wEx (Cf.of true) hk Tryz.prog (tabOf Tryz.prog) 49 plans 1000 (.exit 0) [.blk 0,.seq (codeOf Tryz.prog 51 [1,1,1])] (wEnd (tabOf Tryz.prog) Tryz.f51 false S.boxes.length Q) [(12,.v (.one (.i n12))),(11,.v (.one
 (.i (↑n : Int)))),(10,.v (.one x0_1)),(3,.v (.one x3)),(2,.v (.one .nilsl)),(1,.loc 0 0)] S_1 [(30,[xL0_0,xL0_1,xL0_2,xL0_3,xL0_4])]=∃ n_1,xL0_3.len?=some n_1/\hk.2 49 (codeOf Tryz.prog 51 [1,1,1,0,1,0,0]) [.blk 2,.seq (codeOf Tryz.prog 51 [1,1,1,1])] (wEnd (tabOf Tryz.prog) Tryz.f51 false S.boxes.length Q) [(25,.v (.one (.i 0))),(24,.v (.one (.i (↑n_1 : Int)))),(23,.v (.one
 xL0_3)),(22,.loc 0 3),(12,.v (.one (.i n12))),(11,.v (.one (.i (↑n : Int)))),(10,.v (.one x0_1)),(3,.v (.one x3)),(2,.v (.one .nilsl)),(1,.loc 0 0)] S_1
 [(30,[xL0_0,xL0_1,xL0_2,xL0_3,xL0_4])]
 := by intros; kernel_rfl
theorem b51_1 : ∀ (hk : Hk) (plans : Nat->Plan) (xL0_3 : AL) (n : Nat) (n25 : Int) (x3 xL0_0 xL0_1 xL0_2 xL0_3_1 xL0_4 : AL) (S : St) (K : QW),wCode (Cf.of true) hk Tryz.prog (tabOf Tryz.prog) 49 plans 1000 (codeOf Tryz.prog 51 [1,1,1,0,1,0,0]) [] (fun e env S L => K e (restr [25,24,23,3,2] env) S L) [(25,.v (.one (.i n25))),(24,.v (.one (.i (↑n : Int)))),(23,.v (.one
 xL0_3)),(3,.v (.one x3)),(2,.v (.one .nilsl))] S [(30,[xL0_0,xL0_1,xL0_2,xL0_3_1,xL0_4])]=((decide (n25 < (↑n : Int))=true->∃ tok n_1 xs,xL0_3=.sl tok n_1 xs/\0<=n25/\n25 < (↑n_1 : Int)/\true=true/\(∃ xs_1,likeCells [.i 0,.str k_,.i 0] xs_1=true/\List.take 3 (List.drop (n25.toNat * 3) xs)=xs_1)/\∀ (n_2 : Int) (s : ByteArray) (n_3 : Int),List.take 3 (List.drop (n25.toNat * 3)
 xs)=[.i n_2,.str s,.i n_3]->((n_2 == 2)=true->24=24/\∃ r S',dAppend2 (tabOf Tryz.prog) 24 x3 (.sl (some S.toks.length) 1 [.str s]) (S.born (1,9,1))=some (r,S')/\in64 (n25 + 1)/\K .normal [(25,.v (.one (.i (n25 + 1)))),(24,.v (.one (.i (↑n : Int)))),(23,.v (.one xL0_3)),(3,.v (.one r)),(2,.v (.one .nilsl))] S' [(30,[xL0_0,xL0_1,xL0_2,xL0_3_1,xL0_4]),(46,[.i n_2,.str s,.i
 n_3])])/\((n_2 == 2)=false->((n_2 == 1)=true->(decide (s ≠ ByteArray.mk #[42,100,101,102,97,117,108,116])=true->24=24/\∃ r S',dAppend2 (tabOf Tryz.prog) 24 x3 (.sl (some S.toks.length) 1 [.str s]) (S.born (1,9,1))=some (r,S')/\in64 (n25 + 1)/\K .normal [(25,.v (.one (.i (n25 + 1)))),(24,.v (.one (.i (↑n : Int)))),(23,.v (.one xL0_3)),(3,.v (.one r)),(2,.v (.one .nilsl))] S'
 [(30,[xL0_0,xL0_1,xL0_2,xL0_3_1,xL0_4]),(46,[.i n_2,.str s,.i n_3])])/\(decide (s ≠ ByteArray.mk #[42,100,101,102,97,117,108,116])=false->in64 (n25 + 1)/\K .normal [(25,.v (.one (.i (n25 + 1)))),(24,.v (.one (.i (↑n : Int)))),(23,.v (.one xL0_3)),(3,.v (.one x3)),(2,.v (.one .nilsl))] S [(30,[xL0_0,xL0_1,xL0_2,xL0_3_1,xL0_4]),(46,[.i n_2,.str s,.i n_3])]))/\((n_2 ==
 1)=false->in64 (n25 + 1)/\K .normal [(25,.v (.one (.i (n25 + 1)))),(24,.v (.one (.i (↑n : Int)))),(23,.v (.one xL0_3)),(3,.v (.one x3)),(2,.v (.one .nilsl))] S [(30,[xL0_0,xL0_1,xL0_2,xL0_3_1,xL0_4]),(46,[.i n_2,.str s,.i n_3])])))/\(decide (n25 < (↑n : Int))=false->K (.exit 2) [(25,.v (.one (.i n25))),(24,.v (.one (.i (↑n : Int)))),(23,.v (.one xL0_3)),(3,.v (.one x3)),(2,.v
 (.one .nilsl))] S
 [(30,[xL0_0,xL0_1,xL0_2,xL0_3_1,xL0_4])]))
 := by intros; kernel_rfl
theorem x51_1 : ∀ (hk : Hk) (plans : Nat->Plan) (S : St) (Q : AV->St->Prop) (xL0_3 : AL) (n : Nat) (n25 : Int) (x3 xL0_0 xL0_1 xL0_2 xL0_3_1 xL0_4 : AL) (S_1 : St),wCode.wEx (Cf.of true) hk Tryz.prog (tabOf Tryz.prog) 49 plans 1000 (.exit 2) [.blk 2,.seq (codeOf Tryz.prog 51 [1,1,1,1])] (wEnd (tabOf Tryz.prog) Tryz.f51 false S.boxes.length Q) [(25,.v (.one (.i n25))),(24,.v
 (.one (.i (↑n : Int)))),(23,.v (.one xL0_3)),(3,.v (.one x3)),(2,.v (.one .nilsl))] S_1 [(30,[xL0_0,xL0_1,xL0_2,xL0_3_1,xL0_4])]=(true=true/\Q (.one x3)
 S_1)
 := by intros; kernel_rfl
theorem v49 : ∀ (hk : Hk) (plans : Nat->Plan) (x0 : AL) (s1 : ByteArray) (S : St) (Q : AV->St->Prop),wFn (Cf.of true) hk Tryz.prog (tabOf Tryz.prog) plans false 49 [.one x0,.one (.str s1)] S Q=(true=true/\∃ n,x0.len?=some n/\hk.2 19 (codeOf Tryz.prog 49 [1,0,1,0,0]) [.blk 0,.seq (codeOf Tryz.prog 49 [1,1])] (wEnd (tabOf Tryz.prog) Tryz.f49 false S.boxes.length Q) [(8,.v (.one
 (.i 0))),(7,.v (.one (.i (↑n : Int)))),(6,.v (.one x0)),(4,.v (.one (.i 0))),(0,.v (.one x0)),(1,.v (.one (.str s1)))] S
 [])
 := by intros; kernel_rfl
theorem b49_0 : ∀ (hk : Hk) (plans : Nat->Plan) (x0 : AL) (s1 : ByteArray) (n : Nat) (n8 n4 : Int) (S : St) (K : QW),wCode (Cf.of true) hk Tryz.prog (tabOf Tryz.prog) 19 plans 1000 (codeOf Tryz.prog 49 [1,0,1,0,0]) [] (fun e env S L => K e (restr [8,7,4,0,1] env) S L) [(8,.v (.one (.i n8))),(7,.v (.one (.i (↑n : Int)))),(4,.v (.one (.i n4))),(0,.v (.one x0)),(1,.v (.one (.str
 s1)))] S []=((decide (n8 < (↑n : Int))=true->∃ tok n_1 xs,x0=.sl tok n_1 xs/\0<=n8/\n8 < (↑n_1 : Int)/\(∃ x,likeCells [.str k_] [x]=true/\(List.drop (n8.toNat * 1) xs)[0]?=some x)/\∀ (s : ByteArray),(List.drop (n8.toNat * 1) xs)[0]?=some (.str s)->(decide (s1=s)=true->K .ret [(8,.v (.one (.i n8))),(7,.v (.one (.i (↑n : Int)))),(4,.v (.one (.i n8))),(0,.v (.one x0)),(1,.v (.one
 (.str s1)))] S [])/\(decide (s1=s)=false->in64 (n8 + 1)/\K .normal [(8,.v (.one (.i (n8 + 1)))),(7,.v (.one (.i (↑n : Int)))),(4,.v (.one (.i n4))),(0,.v (.one x0)),(1,.v (.one (.str s1)))] S []))/\(decide (n8 < (↑n : Int))=false->K (.exit 0) [(8,.v (.one (.i n8))),(7,.v (.one (.i (↑n : Int)))),(4,.v (.one (.i n4))),(0,.v (.one x0)),(1,.v (.one (.str s1)))] S
 []))
 := by intros; kernel_rfl
theorem x49_0 : ∀ (hk : Hk) (plans : Nat->Plan) (x0 : AL) (s1 : ByteArray) (S : St) (Q : AV->St->Prop) (n : Nat) (n8 n4 : Int) (S_1 : St),wCode.wEx (Cf.of true) hk Tryz.prog (tabOf Tryz.prog) 19 plans 1000 (.exit 0) [.blk 0,.seq (codeOf Tryz.prog 49 [1,1])] (wEnd (tabOf Tryz.prog) Tryz.f49 false S.boxes.length Q) [(8,.v (.one (.i n8))),(7,.v (.one (.i (↑n : Int)))),(4,.v (.one
 (.i n4))),(0,.v (.one x0)),(1,.v (.one (.str s1)))] S_1 []=(true=true/\Q (.one (.i (-1)))
 S_1)
 := by intros; kernel_rfl
theorem v19 : ∀ (hk : Hk) (plans : Nat->Plan) (x0 : AL) (s1 : ByteArray) (S : St) (Q : AV->St->Prop),wFn (Cf.of true) hk Tryz.prog (tabOf Tryz.prog) plans false 19 [.one x0,.one (.str s1)] S Q=(true=true/\∃ R,hk.1 49 [.one x0,.one (.str s1)] S [] R/\∀ (n : Int) (S1 : St),R (.one (.i n)) S1->true=true/\Q (.one (.bool (decide (n ≥ 0)))) S1)
 := by intros; kernel_rfl
theorem v24 : ∀ (hk : Hk) (plans : Nat->Plan) (n0 : Int) (x1 : AL) (S : St) (Q : AV->St->Prop),wFn (Cf.of true) hk Tryz.prog (tabOf Tryz.prog) plans false 24 [.one (.i n0),.one x1] S Q=(true=true/\∃ n,x1.len?=some n/\hk.2 23 (codeOf Tryz.prog 24 [1,1,0,1,0,0]) [.blk 0,.seq (codeOf Tryz.prog 24 [1,1,1])] (wEnd (tabOf Tryz.prog) Tryz.f24 false S.boxes.length Q) [(11,.v (.one (.i
 0))),(10,.v (.one (.i (↑n : Int)))),(9,.v (.one x1)),(5,.v (.one (.sl (some S.toks.length) 0 []))),(8,.v (.one (.sl (some S.toks.length) 0 []))),(4,.v (.one .nilsl)),(0,.v (.one (.i n0))),(1,.v (.one x1))] (S.born (0,36,2))
 [])
 := by intros; kernel_rfl
theorem b24_0 : ∀ (hk : Hk) (plans : Nat->Plan) (n0 : Int) (x1 : AL) (n : Nat) (n11 : Int) (x5 : AL) (S : St) (K : QW),wCode (Cf.of true) hk Tryz.prog (tabOf Tryz.prog) 23 plans 1000 (codeOf Tryz.prog 24 [1,1,0,1,0,0]) [] (fun e env S L => K e (restr [11,10,9,5,4,0] env) S L) [(11,.v (.one (.i n11))),(10,.v (.one (.i (↑n : Int)))),(9,.v (.one x1)),(5,.v (.one x5)),(4,.v (.one
 .nilsl)),(0,.v (.one (.i n0)))] S []=((decide (n11 < (↑n : Int))=true->∃ tok n_1 xs,x1=.sl tok n_1 xs/\0<=n11/\n11 < (↑n_1 : Int)/\(∃ x,likeCells [.str k_] [x]=true/\(List.drop (n11.toNat * 1) xs)[0]?=some x)/\∀ (s : ByteArray),(List.drop (n11.toNat * 1) xs)[0]?=some (.str s)->32=32/\∃ r S',dAppend2 (tabOf Tryz.prog) 32 x5 (.sl (some S.toks.length) 1 [.i n0,.str s]) (S.born
 (2,36,2))=some (r,S')/\in64 (n11 + 1)/\K .normal [(11,.v (.one (.i (n11 + 1)))),(10,.v (.one (.i (↑n : Int)))),(9,.v (.one x1)),(5,.v (.one r)),(4,.v (.one .nilsl)),(0,.v (.one (.i n0)))] S' [])/\(decide (n11 < (↑n : Int))=false->K (.exit 0) [(11,.v (.one (.i n11))),(10,.v (.one (.i (↑n : Int)))),(9,.v (.one x1)),(5,.v (.one x5)),(4,.v (.one .nilsl)),(0,.v (.one (.i n0)))] S
 []))
 := by intros; kernel_rfl
theorem x24_0 : ∀ (hk : Hk) (plans : Nat->Plan) (n0 : Int) (x1 : AL) (S : St) (Q : AV->St->Prop) (n : Nat) (n11 : Int) (x5 : AL) (S_1 : St),wCode.wEx (Cf.of true) hk Tryz.prog (tabOf Tryz.prog) 23 plans 1000 (.exit 0) [.blk 0,.seq (codeOf Tryz.prog 24 [1,1,1])] (wEnd (tabOf Tryz.prog) Tryz.f24 false S.boxes.length Q) [(11,.v (.one (.i n11))),(10,.v (.one (.i (↑n : Int)))),(9,.v
 (.one x1)),(5,.v (.one x5)),(4,.v (.one .nilsl)),(0,.v (.one (.i n0)))] S_1 []=(true=true/\Q (.one x5)
 S_1)
 := by intros; kernel_rfl
theorem v61 : ∀ (hk : Hk) (plans : Nat->Plan) (n0 n1 n2 : Int) (S : St) (Q : AV->St->Prop),wFn (Cf.of true) hk Tryz.prog (tabOf Tryz.prog) plans false 61 [.one (.i n0),.one (.i n1),.one (.i n2)] S Q=(true=true/\(decide (n0 ≥ n1)=true->true=true/\Q (.one (.bool (decide (n0<=n2)))) S)/\(decide (n0 ≥ n1)=false->true=true/\Q (.one (.bool false)) S))
 := by intros; kernel_rfl
theorem v33 : ∀ (hk : Hk) (plans : Nat->Plan) (n0 : Int) (S : St) (Q : AV->St->Prop),wFn (Cf.of true) hk Tryz.prog (tabOf Tryz.prog) plans false 33 [.one (.i n0)] S Q=(true=true/\∃ R,hk.1 61 [.one (.i n0),.one (.i 1),.one (.i 4)] S [] R/\∀ (b : Bool) (S1 : St),R (.one (.bool b)) S1->(b=true->∃ tok n xs,AL.sl (some S1.toks.length) 5 [.str k_,.str k83,.str k84,.str k85,.str
 k86]=.sl tok n xs/\0<=n0/\n0 < (↑n : Int)/\(∃ x,likeCells [.str k_] [x]=true/\(List.drop (n0.toNat * 1) xs)[0]?=some x)/\∀ (s : ByteArray),(List.drop (n0.toNat * 1) xs)[0]?=some (.str s)->true=true/\Q (.one (.str s)) (S1.born (5,9,1)))/\(b=false->∃ R,hk.1 62 [.one (.i n0)] S1 [] R/\∀ (s : ByteArray) (S1 : St),R (.one (.str s)) S1->4 + s.size<=9223372036854775807/\true=true/\Q
 (.one (.str (k87++s)))
 S1))
 := by intros; kernel_rfl
theorem v56 : ∀ (hk : Hk) (plans : Nat->Plan) (x0 : AL) (S : St) (Q : AV->St->Prop),wFn (Cf.of true) hk Tryz.prog (tabOf Tryz.prog) plans false 56 [.one x0] S Q=(true=true/\∃ b,dBin2 (tabOf Tryz.prog) BinOp.eql 24 x0 .nilsl=some (.bool b)/\(b=true->true=true/\Q (.one .nilsl) S)/\(b=false->24=24/\∃ r S',dAppend2 (tabOf Tryz.prog) 24 (.sl (some S.toks.length) 0 []) x0 (S.born
 (0,9,1))=some (r,S')/\true=true/\Q (.one r)
 S'))
 := by intros; kernel_rfl
theorem v57 : ∀ (hk : Hk) (plans : Nat->Plan) (x0 : AL) (S : St) (Q : AV->St->Prop),wFn (Cf.of true) hk Tryz.prog (tabOf Tryz.prog) plans false 57 [.one x0] S Q=(true=true/\∃ b,dBin2 (tabOf Tryz.prog) BinOp.eql 25 x0 .nilsl=some (.bool b)/\(b=true->true=true/\Q (.one .nilsl) S)/\(b=false->25=25/\∃ r S',dAppend2 (tabOf Tryz.prog) 25 (.sl (some S.toks.length) 0 []) x0 (S.born
 (0,48,3))=some (r,S')/\true=true/\Q (.one r)
 S'))
 := by intros; kernel_rfl
theorem v58 : ∀ (hk : Hk) (plans : Nat->Plan) (x0 : AL) (S : St) (Q : AV->St->Prop),wFn (Cf.of true) hk Tryz.prog (tabOf Tryz.prog) plans false 58 [.one x0] S Q=(true=true/\∃ b,dBin2 (tabOf Tryz.prog) BinOp.eql 26 x0 .nilsl=some (.bool b)/\(b=true->true=true/\Q (.one .nilsl) S)/\(b=false->26=26/\∃ r S',dAppend2 (tabOf Tryz.prog) 26 (.sl (some S.toks.length) 0 []) x0 (S.born
 (0,72,4))=some (r,S')/\true=true/\Q (.one r)
 S'))
 := by intros; kernel_rfl
theorem v59 : ∀ (hk : Hk) (plans : Nat->Plan) (x0 : AL) (S : St) (Q : AV->St->Prop),wFn (Cf.of true) hk Tryz.prog (tabOf Tryz.prog) plans false 59 [.one x0] S Q=(true=true/\∃ b,dBin2 (tabOf Tryz.prog) BinOp.eql 27 x0 .nilsl=some (.bool b)/\(b=true->true=true/\Q (.one .nilsl) S)/\(b=false->27=27/\∃ r S',dAppend2 (tabOf Tryz.prog) 27 (.sl (some S.toks.length) 0 []) x0 (S.born
 (0,46,3))=some (r,S')/\true=true/\Q (.one r)
 S'))
 := by intros; kernel_rfl
theorem v60 : ∀ (hk : Hk) (plans : Nat->Plan) (x0 : AL) (S : St) (Q : AV->St->Prop),wFn (Cf.of true) hk Tryz.prog (tabOf Tryz.prog) plans false 60 [.one x0] S Q=(true=true/\∃ b,dBin2 (tabOf Tryz.prog) BinOp.eql 28 x0 .nilsl=some (.bool b)/\(b=true->true=true/\Q (.one .nilsl) S)/\(b=false->28=28/\∃ r S',dAppend2 (tabOf Tryz.prog) 28 (.sl (some S.toks.length) 0 []) x0 (S.born
 (0,59,6))=some (r,S')/\true=true/\Q (.one r)
 S'))
 := by intros; kernel_rfl
end Go.Proofs.YtkdickfiifpblaaGreatDoor.D
namespace Go.Proofs.YtkdickfiifpblaaGreatDoor.D
open Go Go.Den Go.Proofs
theorem v10 : ∀ (hk : Hk) (x0 : AL) (S : St) (Q : AV->St->Prop),wFn (Cf.of true) hk Tryz.prog (tabOf Tryz.prog) pl10 false 10 [.one x0] S Q=(true=true/\∃ n,x0.len?=some n/\hk.2 24 (codeOf Tryz.prog 10 [1,1,0,1,0,0]) [.blk 0,.seq (codeOf Tryz.prog 10 [1,1,1])] (wEnd (tabOf Tryz.prog) Tryz.f10 false S.boxes.length Q) [(8,.v (.one (.i 0))),(7,.v (.one (.i (↑n : Int)))),(6,.v (.one
 x0)),(3,.v (.one (.str k_))),(2,.v (.one (.str k_))),(0,.v (.one x0))] S
 [])
 := by intros; kernel_rfl
theorem b10_0 : ∀ (hk : Hk) (x0 : AL) (n : Nat) (n8 : Int) (s3 : ByteArray) (S : St) (K : QW),wCode (Cf.of true) hk Tryz.prog (tabOf Tryz.prog) 24 pl10 1000 (codeOf Tryz.prog 10 [1,1,0,1,0,0]) [] (fun e env S L => K e (restr [8,7,6,3,2] env) S L) [(8,.v (.one (.i n8))),(7,.v (.one (.i (↑n : Int)))),(6,.v (.one x0)),(3,.v (.one (.str s3))),(2,.v (.one (.str k_)))] S []=((decide
 (n8 < (↑n : Int))=true->∃ tok n_1 xs,x0=.sl tok n_1 xs/\0<=n8/\n8 < (↑n_1 : Int)/\true=true/\(∃ xs_1,likeCells [.i 0,.str k_] xs_1=true/\List.take 2 (List.drop (n8.toNat * 2) xs)=xs_1)/\∀ (n_2 : Int) (s : ByteArray),List.take 2 (List.drop (n8.toNat * 2) xs)=[.i n_2,.str s]->true=true/\((∃ R,hk.1 33 [.one (.i n_2)] S [(36,[.i n_2,.str s])] R/\∀ (s_1 : ByteArray) (S1 : St),R
 (.one (.str s_1)) S1->s_1.size + 1<=9223372036854775807/\((s_1++k28).size + s.size<=9223372036854775807/\(s_1++k28++s).size + 1<=9223372036854775807/\s3.size + (s_1++k28++s++k72).size<=9223372036854775807/\in64 (n8 + 1)/\K .normal [(8,.v (.one (.i (n8 + 1)))),(7,.v (.one (.i (↑n : Int)))),(6,.v (.one x0)),(3,.v (.one (.str (s3++(s_1++k28++s++k72))))),(2,.v (.one (.str k_)))] S1
 [(36,[.i n_2,.str s])])/\True)/\((∃ R,hk.1 33 [.one (.i n_2)] S [(36,[.i n_2,.str s])] R/\∀ (s_1 : ByteArray) (S1 : St),R (.one (.str s_1)) S1->s_1.size + 1<=9223372036854775807/\(s_1++k28).size + s.size<=9223372036854775807/\(s_1++k28++s).size + 1<=9223372036854775807/\s3.size + (s_1++k28++s++k72).size<=9223372036854775807/\in64 (n8 + 1)/\K .normal [(8,.v (.one (.i (n8 +
 1)))),(7,.v (.one (.i (↑n : Int)))),(6,.v (.one x0)),(3,.v (.one (.str (s3++(s_1++k28++s++k72))))),(2,.v (.one (.str k_)))] S1 [(36,[.i n_2,.str s])])/\True)/\True)/\(((∃ R,hk.1 33 [.one (.i n_2)] S [(36,[.i n_2,.str s])] R/\∀ (s_1 : ByteArray) (S1 : St),R (.one (.str s_1)) S1->s_1.size + 1<=9223372036854775807/\(s_1++k28).size + s.size<=9223372036854775807/\(s_1++k28++s).size
 + 1<=9223372036854775807/\s3.size + (s_1++k28++s++k72).size<=9223372036854775807/\in64 (n8 + 1)/\K .normal [(8,.v (.one (.i (n8 + 1)))),(7,.v (.one (.i (↑n : Int)))),(6,.v (.one x0)),(3,.v (.one (.str (s3++(s_1++k28++s++k72))))),(2,.v (.one (.str k_)))] S1 [(36,[.i n_2,.str s])])/\True)/\True)/\True)/\(decide (n8 < (↑n : Int))=false->K (.exit 0) [(8,.v (.one (.i n8))),(7,.v
 (.one (.i (↑n : Int)))),(6,.v (.one x0)),(3,.v (.one (.str s3))),(2,.v (.one (.str k_)))] S
 []))
 := by intros; kernel_rfl
theorem x10_0 : ∀ (hk : Hk) (x0 : AL) (S : St) (Q : AV->St->Prop) (n : Nat) (n8 : Int) (s3 : ByteArray) (S_1 : St),wCode.wEx (Cf.of true) hk Tryz.prog (tabOf Tryz.prog) 24 pl10 1000 (.exit 0) [.blk 0,.seq (codeOf Tryz.prog 10 [1,1,1])] (wEnd (tabOf Tryz.prog) Tryz.f10 false S.boxes.length Q) [(8,.v (.one (.i n8))),(7,.v (.one (.i (↑n : Int)))),(6,.v (.one x0)),(3,.v (.one (.str
 s3))),(2,.v (.one (.str k_)))] S_1 []=(true=true/\Q (.one (.str s3))
 S_1)
 := by intros; kernel_rfl
end Go.Proofs.YtkdickfiifpblaaGreatDoor.D
namespace Go.Proofs.YtkdickfiifpblaaGreatDoor.D
open Go Go.Den Go.Proofs
set_option maxRecDepth 100000
variable {w0 : World}
noncomputable abbrev CONR (f : FuncId) (args : List AV) (r : Nat → AV → St → Prop) : Prop := ConR Tryz.prog (tabOf Tryz.prog) f args r
def iIdx (S : St) (x : AL) (l : List BA) (s : BA) : Nat → KE := fun m env S' L => L = [] ∧ Ext S S' ∧ ∃ (i : Nat) (q : Int), env = [(8, .v (int i)), (7, .v (int l.length)), (4, .v (int q)), (0, .v (.one x)), (1, .v (str s))] ∧ i ≤ l.length ∧ m = l.length - i ∧ ∀ y, y ∈ l.take i → y ≠ s
theorem Index_c {x : AL} {l : List BA} (s : BA) (h : Vw Rq x l) (hl : l.length ≤ 1000000) : CON w0 49 [.one x, str s] (fun v => ∃ n : Int, v = int n ∧ decide (n ≥ 0) = memB s l) := by
  refine Con.of_fn (plans := np) hT hmo (nov := true) (fun v hv => by obtain ⟨n, rfl, _⟩ := hv; exact ⟨Tryz.f49, [int n], by kernel_rfl, rfl, by kernel_rfl⟩) (fun S => ?_)
  rw [v49]
  refine ⟨rfl, _, h.len, [8, 7, 4, 0, 1], iIdx S x l s, l.length, ⟨rfl, Ext.refl S, 0, 0, rfl, Nat.zero_le _, rfl, fun y hy => by simp at hy⟩, ?_⟩
  rintro m env S1 L1 ⟨rfl, hE, i, q, rfl, hi, rfl, hne⟩
  refine WSem.of hT hmo (nov := true) (plans := np) (f := 1000) ?_
  rw [b49_0]
  refine ⟨fun hlt => ?_, fun hge => ?_⟩
  · have hlt := lt_of_dec hlt
    obtain ⟨a, ha⟩ : ∃ a, l[i]? = some a := ⟨_, List.getElem?_eq_getElem hlt⟩
    refine rd1 h ha ?_
    refine ⟨fun he => loopK.ret (L' := []) trivial rfl (kont.ret _ ⟨rfl, hE, i, rfl, ?_⟩), fun hn => ⟨by unfold in64; omega, loopK.again (L' := []) (m' := l.length - (i + 1)) trivial rfl (by omega) ⟨rfl, hE, i + 1, q, rfl, hlt, rfl, fun y hy => ?_⟩⟩⟩
    · have he := of_decide_eq_true he
      rw [memB_iff.2 (by rw [he]; exact List.mem_of_getElem? ha)]
      exact decide_eq_true (by omega)
    · rw [take_next ha] at hy
      rcases List.mem_append.1 hy with hy | hy
      · exact hne y hy
      · rw [List.mem_singleton.1 hy]
        exact Ne.symm (of_decide_eq_false hn)
  · have hge := ge_of_dec hge
    refine loopK.exit (L' := []) trivial rfl (kont.of hT hmo (nov := true) (plans := np) (f := 1000) ?_)
    rw [x49_0]
    rw [take_all hge] at hne
    refine ⟨rfl, hE, -1, rfl, ?_⟩
    cases hm : memB s l with
    | false => rfl
    | true => exact absurd rfl (hne s (memB_iff.1 hm))
theorem Contains_c {x : AL} {l : List BA} (s : BA) (h : Vw Rq x l) (hl : l.length ≤ 1000000) : CON w0 19 [.one x, str s] (fun v => v = bool (memB s l)) := by
  refine Con.of_fn (plans := np) hT hmo (nov := true) (fun v hv => ⟨Tryz.f19, [v], by kernel_rfl, rfl, by subst hv; kernel_rfl⟩) (fun S => ?_)
  rw [v19]
  refine ⟨rfl, _, (Index_c s h hl).use S _, fun n S1 hR => ?_⟩
  obtain ⟨hE, n', he, hn⟩ := hR
  cases he
  exact ⟨rfl, hE, by rw [hn]⟩
theorem rRow.sh {f : FuncId} {fn : Func} (hf : Tryz.prog.funcs[f]? = some fn) (hl : likeVs (tabOf Tryz.prog) fn.resultTypes.toList [.one .nilsl] = true) {l : List BA} : ∀ (n : Nat) (v : AV) (S : St), rRow l n v S → ∃ fn vs, Tryz.prog.funcs[f]? = some fn ∧ v = tupOf vs ∧ likeVs (tabOf Tryz.prog) fn.resultTypes.toList vs = true :=
  fun _ _ _ hv => by obtain ⟨r, rfl, hr, _⟩ := hv; exact vsh hf hl hr.vw
def plainU (m : Md) : List BA := fm (fun e => e.k == 2 || e.k == 3) Er.name m.exprs ++ fm (fun s => s.k == 3) Sm.name m.stmts
def memberU (m : Md) : List BA := fm (fun e => e.k == 4 || e.k == 5) Er.name m.exprs
def lexpsL (m : Md) : List BA := fm (fun x => x.k == 1) Xp.loc m.exps
def isDF (s : Sm) : Bool := s.k == 2 || (s.k == 1 && decide (s.name ≠ dflt))
def declN (m : Md) : List BA := locals m ++ fm isDF Sm.name m.stmts
def iGo (S : St) (n : Nat) (E : Nat → AL → Env) (L0 : Lo) (g : Nat → List BA) : Nat → KE := fun mm env S' L => L = L0 ∧ ∃ (i : Nat) (r : AL), env = E i r ∧ Grew S S' r ∧ i ≤ n ∧ mm = n - i ∧ Row S' 9 1 r (g i).length ((g i).flatMap Rq)
theorem goYes {S : St} {n : Nat} {E : Nat → AL → Env} {L0 L1 : Lo} {g : Nat → List BA} {Q : QW} {i : Nat} {r : AL} {S1 : St} {s : BA} (hi : i < n) (hn : n ≤ 100000) (hG : Grew S S1 r) (hr : Row S1 9 1 r (g i).length ((g i).flatMap Rq)) (hb : (g i).length ≤ 1000000)
    (he : g (i + 1) = g i ++ [s]) (hlow : ∀ (r : AL) (S' : St), lowE S'.boxes.length L0.length (E (i + 1) r)) (hL : L1.take L0.length = L0) {e2 : AL → Env} (hE2 : ∀ r, e2 r = E (i + 1) r) :
    24 = 24 ∧ ∃ r' S', dAppend2 (tabOf Tryz.prog) 24 r (.sl (some S1.toks.length) 1 [.str s]) (S1.born (1, 9, 1)) = some (r', S') ∧ in64 ((i : Int) + 1) ∧ loopK (iGo S n E L0 g) L0.length (n - i) Q .normal (e2 r') S' L1 := by
  obtain ⟨r2, S4, g1, g2, g3, g4, g5, g6, g7⟩ := hr.pushS s hb (1, 9, 1)
  rw [← he] at g2
  refine ⟨rfl, r2, S4, g1, by unfold in64; omega, loopK.again (L' := L0) (m' := n - (i + 1)) ?_ hL (by omega) ⟨rfl, i + 1, r2, hE2 r2, hG.push g3 g4 g5 g6 g7, hi, rfl, g2⟩⟩
  rw [hE2]
  exact hlow r2 S4
theorem goNo {S : St} {n : Nat} {E : Nat → AL → Env} {L0 L1 : Lo} {g : Nat → List BA} {Q : QW} {i : Nat} {r : AL} {S1 : St} (hi : i < n) (hn : n ≤ 100000) (hG : Grew S S1 r) (hr : Row S1 9 1 r (g i).length ((g i).flatMap Rq))
    (he : g (i + 1) = g i) (hlow : ∀ (r : AL) (S' : St), lowE S'.boxes.length L0.length (E (i + 1) r)) (hL : L1.take L0.length = L0) {e2 : Env} (hE2 : e2 = E (i + 1) r) :
    in64 ((i : Int) + 1) ∧ loopK (iGo S n E L0 g) L0.length (n - i) Q .normal e2 S1 L1 := by
  subst hE2
  refine ⟨by unfold in64; omega, loopK.again (L' := L0) (m' := n - (i + 1)) (hlow r S1) hL (by omega) ⟨rfl, i + 1, r, rfl, hG, hi, rfl, ?_⟩⟩
  rw [he]
  exact hr
theorem erA {m : Md} (h : MV m) {i : Nat} {a : Er} (ha : m.exprs[i]? = some a) {H : Int → Int → BA → BA → Int → Int → Prop} (hH : H a.k a.num a.name a.field a.l a.r) :
    ∃ tok n xs, m.xx = .sl tok n xs ∧ 0 ≤ (i : Int) ∧ (i : Int) < (n : Int) ∧ true = true ∧ (∃ ys, likeCells [.int .i64 0, .int .i64 0, .str ⟨⟨[]⟩⟩, .str ⟨⟨[]⟩⟩, .int .i64 0, .int .i64 0] ys = true ∧ List.take 6 (List.drop ((i : Int).toNat * 6) xs) = ys) ∧
      ∀ (k k2 : Int) (s s2 : BA) (e e2 : Int), List.take 6 (List.drop ((i : Int).toNat * 6) xs) = [.int .i64 k, .int .i64 k2, .str s, .str s2, .int .i64 e, .int .i64 e2] → H k k2 s s2 e e2 := by
  obtain ⟨tok, n, xs, g1, g2, g3, g4, g5, g6⟩ := rdA Er_len h.vx ha (zs := [.int .i64 0, .int .i64 0, .str ⟨⟨[]⟩⟩, .str ⟨⟨[]⟩⟩, .int .i64 0, .int .i64 0]) rfl (H := fun ys => ys = a.cells) rfl
  refine ⟨tok, n, xs, g1, g2, g3, g4, g5, fun k k2 s s2 e e2 hks => ?_⟩
  rw [g6] at hks
  cases hks
  exact hH
theorem smA {m : Md} (h : MV m) {i : Nat} {a : Sm} (ha : m.stmts[i]? = some a) {H : Int → BA → Int → Prop} (hH : H a.k a.name a.e) :
    ∃ tok n xs, m.xs = .sl tok n xs ∧ 0 ≤ (i : Int) ∧ (i : Int) < (n : Int) ∧ true = true ∧ (∃ ys, likeCells [.int .i64 0, .str ⟨⟨[]⟩⟩, .int .i64 0] ys = true ∧ List.take 3 (List.drop ((i : Int).toNat * 3) xs) = ys) ∧
      ∀ (k : Int) (s : BA) (e : Int), List.take 3 (List.drop ((i : Int).toNat * 3) xs) = [.int .i64 k, .str s, .int .i64 e] → H k s e := by
  obtain ⟨tok, n, xs, g1, g2, g3, g4, g5, g6⟩ := rdA Sm_len h.vs ha (zs := [.int .i64 0, .str ⟨⟨[]⟩⟩, .int .i64 0]) rfl (H := fun ys => ys = a.cells) rfl
  refine ⟨tok, n, xs, g1, g2, g3, g4, g5, fun k s e hks => ?_⟩
  rw [g6] at hks
  cases hks
  exact hH
theorem xpA {m : Md} (h : MV m) {i : Nat} {a : Xp} (ha : m.exps[i]? = some a) {H : Int → BA → BA → BA → Prop} (hH : H a.k a.name a.loc a.spec) :
    ∃ tok n xs, m.xe = .sl tok n xs ∧ 0 ≤ (i : Int) ∧ (i : Int) < (n : Int) ∧ true = true ∧ (∃ ys, likeCells [.int .i64 0, .str ⟨⟨[]⟩⟩, .str ⟨⟨[]⟩⟩, .str ⟨⟨[]⟩⟩] ys = true ∧ List.take 4 (List.drop ((i : Int).toNat * 4) xs) = ys) ∧
      ∀ (k : Int) (s s1 s2 : BA), List.take 4 (List.drop ((i : Int).toNat * 4) xs) = [.int .i64 k, .str s, .str s1, .str s2] → H k s s1 s2 := by
  obtain ⟨tok, n, xs, g1, g2, g3, g4, g5, g6⟩ := rdA Xp_len h.ve ha (zs := [.int .i64 0, .str ⟨⟨[]⟩⟩, .str ⟨⟨[]⟩⟩, .str ⟨⟨[]⟩⟩]) rfl (H := fun ys => ys = a.cells) rfl
  refine ⟨tok, n, xs, g1, g2, g3, g4, g5, fun k s s1 s2 hks => ?_⟩
  rw [g6] at hks
  cases hks
  exact hH
theorem imA {m : Md} (h : MV m) {i : Nat} {a : Im} (ha : m.imps[i]? = some a) {H : BA → BA → BA → Prop} (hH : H a.spec a.from_ a.loc) :
    ∃ tok n xs, m.xi = .sl tok n xs ∧ 0 ≤ (i : Int) ∧ (i : Int) < (n : Int) ∧ true = true ∧ (∃ ys, likeCells [.str ⟨⟨[]⟩⟩, .str ⟨⟨[]⟩⟩, .str ⟨⟨[]⟩⟩] ys = true ∧ List.take 3 (List.drop ((i : Int).toNat * 3) xs) = ys) ∧
      ∀ (s s1 s2 : BA), List.take 3 (List.drop ((i : Int).toNat * 3) xs) = [.str s, .str s1, .str s2] → H s s1 s2 := by
  obtain ⟨tok, n, xs, g1, g2, g3, g4, g5, g6⟩ := rdA Im_len h.vi ha (zs := [.str ⟨⟨[]⟩⟩, .str ⟨⟨[]⟩⟩, .str ⟨⟨[]⟩⟩]) rfl (H := fun ys => ys = a.cells) rfl
  refine ⟨tok, n, xs, g1, g2, g3, g4, g5, fun s s1 s2 hks => ?_⟩
  rw [g6] at hks
  cases hks
  exact hH
theorem memberUses_c {m : Md} (h : MV m) : CONR 45 [m.av] (rRow (memberU m)) := by
  refine ConR.of_fn (plans := np) hT hmo (nov := true) rRow.loc (rRow.sh (fn := Tryz.f45) (by kernel_rfl) (by kernel_rfl)) (fun w0 S => ?_)
  rw [v45]
  have hcx := h.cx
  let g : Nat → List BA := fun i => fm (fun e => e.k == 4 || e.k == 5) Er.name (m.exprs.take i)
  have hg : ∀ i, (g i).length ≤ 1000000 := fun i => Nat.le_trans (fm_len _ _ _) (by rw [List.length_take]; omega)
  refine ⟨rfl, _, h.vx.len, [10, 9, 8, 3, 2], iGo S m.exprs.length (fun i r => [(10, .v (int i)), (9, .v (int m.exprs.length)), (8, .v (.one m.xx)), (3, .v (.one r)), (2, .v (.one .nilsl))]) (mL m) g, m.exprs.length, ⟨rfl, 0, _, rfl, Grew.born (Ext.refl S) _, Nat.zero_le _, rfl, Row.born _ _ _⟩, ?_⟩
  rintro mm env S1 L1 ⟨rfl, i, r, rfl, hG, hi, rfl, hr⟩
  refine WSem.of hT hmo (nov := true) (plans := np) (f := 1000) ?_
  rw [b45_0]
  refine ⟨fun hlt => ?_, fun hge => ?_⟩
  · have hlt := lt_of_dec hlt
    obtain ⟨a, ha⟩ : ∃ a, m.exprs[i]? = some a := ⟨_, List.getElem?_eq_getElem hlt⟩
    refine erA h ha ⟨fun h4 => ?_, fun h4 => ⟨fun h5 => ?_, fun h5 => ?_⟩⟩
    · exact goYes hlt (by omega) hG hr (hg i) (fm_yes ha (by rw [h4]; rfl)) (fun _ _ => by exact trivial) (by rfl) (fun _ => by rfl)
    · exact goYes hlt (by omega) hG hr (hg i) (fm_yes ha (by rw [h5, Bool.or_true])) (fun _ _ => by exact trivial) (by rfl) (fun _ => by rfl)
    · exact goNo hlt (by omega) hG hr (fm_no ha (by rw [h4, h5]; rfl)) (fun _ _ => by exact trivial) (by rfl) (by rfl)
  · have hge := ge_of_dec hge
    refine loopK.exit (L' := mL m) trivial rfl (kont.of hT hmo (nov := true) (plans := np) (f := 1000) ?_)
    rw [x45_0]
    have e : g i = memberU m := by show fm _ _ (m.exprs.take i) = _; rw [take_all hge]; rfl
    rw [e] at hr
    exact ⟨rfl, hG.ext, r, rfl, hr, hG.new⟩
theorem localExps_c {m : Md} (h : MV m) : CONR 46 [m.av] (rRow (lexpsL m)) := by
  refine ConR.of_fn (plans := np) hT hmo (nov := true) rRow.loc (rRow.sh (fn := Tryz.f46) (by kernel_rfl) (by kernel_rfl)) (fun w0 S => ?_)
  rw [v46]
  have hce := h.ce
  let g : Nat → List BA := fun i => fm (fun x => x.k == 1) Xp.loc (m.exps.take i)
  have hg : ∀ i, (g i).length ≤ 1000000 := fun i => Nat.le_trans (fm_len _ _ _) (by rw [List.length_take]; omega)
  refine ⟨rfl, _, h.ve.len, [10, 9, 8, 3, 2], iGo S m.exps.length (fun i r => [(10, .v (int i)), (9, .v (int m.exps.length)), (8, .v (.one m.xe)), (3, .v (.one r)), (2, .v (.one .nilsl))]) (mL m) g, m.exps.length, ⟨rfl, 0, _, rfl, Grew.born (Ext.refl S) _, Nat.zero_le _, rfl, Row.born _ _ _⟩, ?_⟩
  rintro mm env S1 L1 ⟨rfl, i, r, rfl, hG, hi, rfl, hr⟩
  refine WSem.of hT hmo (nov := true) (plans := np) (f := 1000) ?_
  rw [b46_0]
  refine ⟨fun hlt => ?_, fun hge => ?_⟩
  · have hlt := lt_of_dec hlt
    obtain ⟨a, ha⟩ : ∃ a, m.exps[i]? = some a := ⟨_, List.getElem?_eq_getElem hlt⟩
    refine xpA h ha ⟨fun h4 => ?_, fun h4 => ?_⟩
    · exact goYes hlt (by omega) hG hr (hg i) (fm_yes (p := fun x : Xp => x.k == 1) ha h4) (fun _ _ => by exact trivial) (by rfl) (fun _ => by rfl)
    · exact goNo hlt (by omega) hG hr (fm_no (p := fun x : Xp => x.k == 1) ha h4) (fun _ _ => by exact trivial) (by rfl) (by rfl)
  · have hge := ge_of_dec hge
    refine loopK.exit (L' := mL m) trivial rfl (kont.of hT hmo (nov := true) (plans := np) (f := 1000) ?_)
    rw [x46_0]
    have e : g i = lexpsL m := by show fm _ _ (m.exps.take i) = _; rw [take_all hge]; rfl
    rw [e] at hr
    exact ⟨rfl, hG.ext, r, rfl, hr, hG.new⟩
theorem plainUses_c {m : Md} (h : MV m) : CONR 44 [m.av] (rRow (plainU m)) := by
  refine ConR.of_fn (plans := np) hT hmo (nov := true) rRow.loc (rRow.sh (fn := Tryz.f44) (by kernel_rfl) (by kernel_rfl)) (fun w0 S => ?_)
  rw [v44]
  have hcx := h.cx
  have hcs := h.cs
  let g : Nat → List BA := fun i => fm (fun e => e.k == 2 || e.k == 3) Er.name (m.exprs.take i)
  let g2 : Nat → List BA := fun i => fm (fun e => e.k == 2 || e.k == 3) Er.name m.exprs ++ fm (fun s => s.k == 3) Sm.name (m.stmts.take i)
  have hg : ∀ i, (g i).length ≤ 1000000 := fun i => Nat.le_trans (fm_len _ _ _) (by rw [List.length_take]; omega)
  have hg2 : ∀ i, (g2 i).length ≤ 1000000 := fun i => by
    have a1 := fm_len (fun e : Er => e.k == 2 || e.k == 3) Er.name m.exprs
    have a2 := fm_len (fun s : Sm => s.k == 3) Sm.name (m.stmts.take i)
    rw [List.length_take] at a2
    show (_ ++ _ : List BA).length ≤ _
    rw [List.length_append]
    omega
  refine ⟨rfl, _, h.vx.len, [12, 11, 10, 3, 2, 1], iGo S m.exprs.length (fun i r => [(12, .v (int i)), (11, .v (int m.exprs.length)), (10, .v (.one m.xx)), (3, .v (.one r)), (2, .v (.one .nilsl)), (1, .loc 0 0)]) (mL m) g, m.exprs.length, ⟨rfl, 0, _, rfl, Grew.born (Ext.refl S) _, Nat.zero_le _, rfl, Row.born _ _ _⟩, ?_⟩
  rintro mm env S1 L1 ⟨rfl, i, r, rfl, hG, hi, rfl, hr⟩
  refine WSem.of hT hmo (nov := true) (plans := np) (f := 1000) ?_
  rw [b44_0]
  refine ⟨fun hlt => ?_, fun hge => ?_⟩
  · have hlt := lt_of_dec hlt
    obtain ⟨a, ha⟩ : ∃ a, m.exprs[i]? = some a := ⟨_, List.getElem?_eq_getElem hlt⟩
    refine erA h ha ⟨fun h4 => ?_, fun h4 => ⟨fun h5 => ?_, fun h5 => ?_⟩⟩
    · exact goYes hlt (by omega) hG hr (hg i) (fm_yes ha (by rw [h4]; rfl)) (fun _ _ => by exact ⟨Nat.zero_lt_one, trivial⟩) (by rfl) (fun _ => by rfl)
    · exact goYes hlt (by omega) hG hr (hg i) (fm_yes ha (by rw [h5, Bool.or_true])) (fun _ _ => by exact ⟨Nat.zero_lt_one, trivial⟩) (by rfl) (fun _ => by rfl)
    · exact goNo hlt (by omega) hG hr (fm_no ha (by rw [h4, h5]; rfl)) (fun _ _ => by exact ⟨Nat.zero_lt_one, trivial⟩) (by rfl) (by rfl)
  have hge := ge_of_dec hge
  refine loopK.exit (L' := mL m) ⟨Nat.zero_lt_one, trivial⟩ rfl (kont.of hT hmo (nov := true) (plans := np) (f := 1000) ?_)
  rw [x44_0]
  have e : g i = g2 0 := by show fm _ _ (m.exprs.take i) = _ ++ fm _ _ (m.stmts.take 0); rw [take_all hge]; simp [fm]
  rw [e] at hr
  clear hi hge e
  refine ⟨_, h.vs.len, [33, 32, 31, 3, 2], iGo S m.stmts.length (fun i r => [(33, .v (int i)), (32, .v (int m.stmts.length)), (31, .v (.one m.xs)), (3, .v (.one r)), (2, .v (.one .nilsl))]) (mL m) g2, m.stmts.length, ⟨rfl, 0, r, rfl, hG, Nat.zero_le _, rfl, hr⟩, ?_⟩
  rintro mm env S1 L1 ⟨rfl, i, r, rfl, hG, hi, rfl, hr⟩
  refine WSem.of hT hmo (nov := true) (plans := np) (f := 1000) ?_
  rw [b44_1]
  refine ⟨fun hlt => ?_, fun hge => ?_⟩
  · have hlt := lt_of_dec hlt
    obtain ⟨a, ha⟩ : ∃ a, m.stmts[i]? = some a := ⟨_, List.getElem?_eq_getElem hlt⟩
    refine smA h ha ⟨fun h4 => ?_, fun h4 => ?_⟩
    · exact goYes hlt (by omega) hG hr (hg2 i) (by show _ ++ _ = (_ ++ _) ++ _; rw [fm_yes (p := fun s : Sm => s.k == 3) ha h4, List.append_assoc]) (fun _ _ => by exact trivial) (by rfl) (fun _ => by rfl)
    · exact goNo hlt (by omega) hG hr (by show _ ++ _ = _ ++ _; rw [fm_no (p := fun s : Sm => s.k == 3) ha h4]) (fun _ _ => by exact trivial) (by rfl) (by rfl)
  · have hge := ge_of_dec hge
    refine loopK.exit (L' := mL m) trivial rfl (kont.of hT hmo (nov := true) (plans := np) (f := 1000) ?_)
    rw [x44_1]
    have e : g2 i = plainU m := by show _ ++ fm _ _ (m.stmts.take i) = _; rw [take_all hge]; rfl
    rw [e] at hr
    exact ⟨rfl, hG.ext, r, rfl, hr, hG.new⟩
theorem declaredNames_c {m : Md} (h : MV m) : CONR 51 [m.av] (rRow (declN m)) := by
  refine ConR.of_fn (plans := np) hT hmo (nov := true) rRow.loc (rRow.sh (fn := Tryz.f51) (by kernel_rfl) (by kernel_rfl)) (fun w0 S => ?_)
  rw [v51]
  have hci := h.ci
  have hcs := h.cs
  let g : Nat → List BA := fun i => (m.imps.take i).map Im.loc
  let g2 : Nat → List BA := fun i => locals m ++ fm isDF Sm.name (m.stmts.take i)
  have hg : ∀ i, (g i).length ≤ 1000000 := fun i => by show ((m.imps.take i).map _).length ≤ _; rw [List.length_map, List.length_take]; omega
  have hg2 : ∀ i, (g2 i).length ≤ 1000000 := fun i => by
    have a2 := fm_len isDF Sm.name (m.stmts.take i)
    rw [List.length_take] at a2
    show (locals m ++ _).length ≤ _
    rw [List.length_append, locals, List.length_map]
    omega
  refine ⟨rfl, _, h.vi.len, [12, 11, 10, 3, 2, 1], iGo S m.imps.length (fun i r => [(12, .v (int i)), (11, .v (int m.imps.length)), (10, .v (.one m.xi)), (3, .v (.one r)), (2, .v (.one .nilsl)), (1, .loc 0 0)]) (mL m) g, m.imps.length, ⟨rfl, 0, _, rfl, Grew.born (Ext.refl S) _, Nat.zero_le _, rfl, Row.born _ _ _⟩, ?_⟩
  rintro mm env S1 L1 ⟨rfl, i, r, rfl, hG, hi, rfl, hr⟩
  refine WSem.of hT hmo (nov := true) (plans := np) (f := 1000) ?_
  rw [b51_0]
  refine ⟨fun hlt => ?_, fun hge => ?_⟩
  · have hlt := lt_of_dec hlt
    obtain ⟨a, ha⟩ : ∃ a, m.imps[i]? = some a := ⟨_, List.getElem?_eq_getElem hlt⟩
    refine imA h ha ?_
    exact goYes hlt (by omega) hG hr (hg i) (by show (m.imps.take (i + 1)).map _ = (m.imps.take i).map _ ++ _; rw [take_next ha, List.map_append]; rfl) (fun _ _ => by exact ⟨Nat.zero_lt_one, trivial⟩) (by rfl) (fun _ => by rfl)
  have hge := ge_of_dec hge
  refine loopK.exit (L' := mL m) ⟨Nat.zero_lt_one, trivial⟩ rfl (kont.of hT hmo (nov := true) (plans := np) (f := 1000) ?_)
  rw [x51_0]
  have e : g i = g2 0 := by show (m.imps.take i).map _ = locals m ++ fm _ _ (m.stmts.take 0); rw [take_all hge]; simp [fm, locals]
  rw [e] at hr
  clear hi hge e
  refine ⟨_, h.vs.len, [25, 24, 23, 3, 2], iGo S m.stmts.length (fun i r => [(25, .v (int i)), (24, .v (int m.stmts.length)), (23, .v (.one m.xs)), (3, .v (.one r)), (2, .v (.one .nilsl))]) (mL m) g2, m.stmts.length, ⟨rfl, 0, r, rfl, hG, Nat.zero_le _, rfl, hr⟩, ?_⟩
  rintro mm env S1 L1 ⟨rfl, i, r, rfl, hG, hi, rfl, hr⟩
  refine WSem.of hT hmo (nov := true) (plans := np) (f := 1000) ?_
  rw [b51_1]
  refine ⟨fun hlt => ?_, fun hge => ?_⟩
  · have hlt := lt_of_dec hlt
    obtain ⟨a, ha⟩ : ∃ a, m.stmts[i]? = some a := ⟨_, List.getElem?_eq_getElem hlt⟩
    have yes : isDF a = true → g2 (i + 1) = g2 i ++ [a.name] := fun hp => by show _ ++ _ = (_ ++ _) ++ _; rw [fm_yes ha hp, List.append_assoc]
    have no : isDF a = false → g2 (i + 1) = g2 i := fun hp => by show _ ++ _ = _ ++ _; rw [fm_no ha hp]
    refine smA h ha ⟨fun h2 => ?_, fun h2 => ⟨fun h1 => ⟨fun hd => ?_, fun hd => ?_⟩, fun h1 => ?_⟩⟩
    · exact goYes hlt (by omega) hG hr (hg2 i) (yes (by unfold isDF; rw [h2]; rfl)) (fun _ _ => by exact trivial) (by rfl) (fun _ => by rfl)
    · exact goYes hlt (by omega) hG hr (hg2 i) (yes (by unfold isDF; rw [h1, show decide (a.name ≠ dflt) = true from hd]; simp)) (fun _ _ => by exact trivial) (by rfl) (fun _ => by rfl)
    · exact goNo hlt (by omega) hG hr (no (by unfold isDF; rw [h2, show decide (a.name ≠ dflt) = false from hd]; simp)) (fun _ _ => by exact trivial) (by rfl) (by rfl)
    · exact goNo hlt (by omega) hG hr (no (by unfold isDF; rw [h2, h1]; simp)) (fun _ _ => by exact trivial) (by rfl) (by rfl)
  · have hge := ge_of_dec hge
    refine loopK.exit (L' := mL m) trivial rfl (kont.of hT hmo (nov := true) (plans := np) (f := 1000) ?_)
    rw [x51_1]
    have e : g2 i = declN m := by show _ ++ fm _ _ (m.stmts.take i) = _; rw [take_all hge]; rfl
    rw [e] at hr
    exact ⟨rfl, hG.ext, r, rfl, hr, hG.new⟩
end Go.Proofs.YtkdickfiifpblaaGreatDoor.D
namespace Go.Proofs.YtkdickfiifpblaaGreatDoor.D
open Go Go.Den Go.Proofs
set_option maxRecDepth 100000
variable {w0 : World}
def rRowG {α : Type} (c : α → List AL) (e : TypeId) (sz : Nat) (l : List α) (n : Nat) (v : AV) (S : St) : Prop := ∃ r, v = .one r ∧ Row S e sz r l.length (l.flatMap c) ∧ ∀ t, r.tk = some t → n ≤ t
theorem rRowG.loc {α : Type} {c : α → List AL} {e : TypeId} {sz : Nat} {l : List α} : ∀ (n : Nat) (v : AV) (S S' : St), TokSub S S' → rRowG c e sz l n v S → rRowG c e sz l n v S' := fun _ _ _ _ h ⟨r, h1, h2, h3⟩ => ⟨r, h1, h2.sub h, h3⟩
theorem rRowG.sh {f : FuncId} {fn : Func} (hf : Tryz.prog.funcs[f]? = some fn) (hl : likeVs (tabOf Tryz.prog) fn.resultTypes.toList [.one .nilsl] = true) {α : Type} {c : α → List AL} {e : TypeId} {sz : Nat} {l : List α} : ∀ (n : Nat) (v : AV) (S : St), rRowG c e sz l n v S → ∃ fn vs, Tryz.prog.funcs[f]? = some fn ∧ v = tupOf vs ∧ likeVs (tabOf Tryz.prog) fn.resultTypes.toList vs = true :=
  fun _ _ _ hv => by obtain ⟨r, rfl, hr, _⟩ := hv; exact vsh hf hl hr.vw
theorem cloneAsk {t e : TypeId} {d de : D} (hd : (tabOf Tryz.prog).desc t = some d) (he : d.elem = some e) (hde : (tabOf Tryz.prog).desc e = some de) (hz : de.zero.length = de.size) (h0 : de.size ≠ 0) (_hstr : d.isStr = false) (_hbool : d.isBool = false) {α : Type} {c : α → List AL} (hc : ∀ x, (c x).length = de.size) {x : AL} {l : List α} (hx : Vw c x l)
    (hl : l.length ≤ 100000) (hb : de.bytes ≤ 1000) (S : St) {Q : AV → St → Prop} (hQ : ∀ v S', Ext S S' → rRowG c e de.size l S.toks.length v S' → Q v S') :
    ∃ b, dBin2 (tabOf Tryz.prog) BinOp.eql t x .nilsl = some (.bool b) ∧ (b = true → true = true ∧ Q (.one .nilsl) S) ∧ (b = false → t = t ∧ ∃ r S', dAppend2 (tabOf Tryz.prog) t (.sl (some S.toks.length) 0 []) x (S.born (0, e, de.size)) = some (r, S') ∧ true = true ∧ Q (.one r) S') := by
  have hlb : (l.length * de.bytes) ≤ 100000 * 1000 := Nat.mul_le_mul hl hb
  obtain ⟨rfl, rfl⟩ | ⟨tok, rfl⟩ := hx
  · refine ⟨true, ?_, fun _ => ⟨rfl, hQ _ S (Ext.refl S) ⟨_, rfl, Row.nil _ _ _, fun t ht => by cases ht⟩⟩, fun h => by cases h⟩
    unfold dBin2 dBin dEqNil
    simp [hd, he]
  · refine ⟨false, ?_, fun h => (by cases h), fun _ => ?_⟩
    · unfold dBin2 dBin dEqNil
      simp [hd, he]
    · obtain ⟨r, S', h1, h2, h3, h4, h5⟩ := (Row.born S e de.size).app hd he hde hz h0 (y := .sl tok l.length (l.flatMap c)) (m := l.length) (ys := l.flatMap c) (flat_len c de.size hc l) (.inr ⟨_, rfl⟩) (by unfold maxLen; omega) (by rw [Nat.zero_add]; omega)
      refine ⟨rfl, r, S', h1, rfl, hQ _ S' ?_ ⟨r, rfl, ?_, ?_⟩⟩
      · refine ⟨h3.box, fun t z ht => h4 t z ((TokLe.born S _).tok t z ht) (fun he => ?_), ?_, fun t ht => h3.yng t ((TokLe.born S _).yng t ht)⟩
        · have := tok_lt ht
          simp [AL.tk] at he
          omega
        · have := h3.len
          rw [born_len] at this
          omega
      · rw [Nat.zero_add] at h2
        exact h2
      · intro t ht
        rcases h5 with rfl | ⟨k, hk, hle⟩
        · simp [AL.tk] at ht
          omega
        · rw [hk] at ht
          cases ht
          rw [born_len] at hle
          omega
theorem Clone24_c {x : AL} {l : List BA} (h : Vw Rq x l) (hl : l.length ≤ 100000) : CONR 56 [.one x] (rRowG Rq 9 1 l) := by
  refine ConR.of_fn (plans := np) hT hmo (nov := true) rRowG.loc (rRowG.sh (fn := Tryz.f56) (by kernel_rfl) (by kernel_rfl)) (fun w0 S => ?_)
  rw [v56]
  exact ⟨rfl, cloneAsk (Q := fun v S' => Ext S S' ∧ rRowG Rq 9 1 l S.toks.length v S') T24 rfl T9 rfl (by decide) rfl rfl Rq_len h hl (by decide) S (fun v S' hE hr => ⟨hE, hr⟩)⟩
theorem Clone25_c {x : AL} {l : List Im} (h : Vw Im.cells x l) (hl : l.length ≤ 100000) : CONR 57 [.one x] (rRowG Im.cells 48 3 l) := by
  refine ConR.of_fn (plans := np) hT hmo (nov := true) rRowG.loc (rRowG.sh (fn := Tryz.f57) (by kernel_rfl) (by kernel_rfl)) (fun w0 S => ?_)
  rw [v57]
  exact ⟨rfl, cloneAsk (Q := fun v S' => Ext S S' ∧ rRowG Im.cells 48 3 l S.toks.length v S') T25 rfl T48 rfl (by decide) rfl rfl Im_len h hl (by decide) S (fun v S' hE hr => ⟨hE, hr⟩)⟩
theorem Clone26_c {x : AL} {l : List Xp} (h : Vw Xp.cells x l) (hl : l.length ≤ 100000) : CONR 58 [.one x] (rRowG Xp.cells 72 4 l) := by
  refine ConR.of_fn (plans := np) hT hmo (nov := true) rRowG.loc (rRowG.sh (fn := Tryz.f58) (by kernel_rfl) (by kernel_rfl)) (fun w0 S => ?_)
  rw [v58]
  exact ⟨rfl, cloneAsk (Q := fun v S' => Ext S S' ∧ rRowG Xp.cells 72 4 l S.toks.length v S') T26 rfl T72 rfl (by decide) rfl rfl Xp_len h hl (by decide) S (fun v S' hE hr => ⟨hE, hr⟩)⟩
theorem Clone27_c {x : AL} {l : List Sm} (h : Vw Sm.cells x l) (hl : l.length ≤ 100000) : CONR 59 [.one x] (rRowG Sm.cells 46 3 l) := by
  refine ConR.of_fn (plans := np) hT hmo (nov := true) rRowG.loc (rRowG.sh (fn := Tryz.f59) (by kernel_rfl) (by kernel_rfl)) (fun w0 S => ?_)
  rw [v59]
  exact ⟨rfl, cloneAsk (Q := fun v S' => Ext S S' ∧ rRowG Sm.cells 46 3 l S.toks.length v S') T27 rfl T46 rfl (by decide) rfl rfl Sm_len h hl (by decide) S (fun v S' hE hr => ⟨hE, hr⟩)⟩
theorem Clone28_c {x : AL} {l : List Er} (h : Vw Er.cells x l) (hl : l.length ≤ 100000) : CONR 60 [.one x] (rRowG Er.cells 59 6 l) := by
  refine ConR.of_fn (plans := np) hT hmo (nov := true) rRowG.loc (rRowG.sh (fn := Tryz.f60) (by kernel_rfl) (by kernel_rfl)) (fun w0 S => ?_)
  rw [v60]
  exact ⟨rfl, cloneAsk (Q := fun v S' => Ext S S' ∧ rRowG Er.cells 59 6 l S.toks.length v S') T28 rfl T59 rfl (by decide) rfl rfl Er_len h hl (by decide) S (fun v S' hE hr => ⟨hE, hr⟩)⟩
theorem in_c (a b c : Int) : CON w0 61 [int a, int b, int c] (fun v => v = bool (decide (b ≤ a) && decide (a ≤ c))) := by
  refine Con.of_fn (plans := np) hT hmo (nov := true) (fun v hv => ⟨Tryz.f61, [v], by kernel_rfl, rfl, by subst hv; kernel_rfl⟩) (fun S => ?_)
  rw [v61]
  refine ⟨rfl, fun h => ⟨rfl, Ext.refl S, ?_⟩, fun h => ⟨rfl, Ext.refl S, ?_⟩⟩
  · have h := of_decide_eq_true h
    rw [decide_eq_true (show b ≤ a from h), Bool.true_and]
  · have h := of_decide_eq_false h
    rw [decide_eq_false (show ¬ b ≤ a from h), Bool.false_and]
theorem noteWord_c {k : Int} (h1 : 1 ≤ k) (h4 : k ≤ 4) : CON w0 33 [int k] (fun v => v = str (wordN k)) := by
  refine Con.of_fn (plans := np) hT hmo (nov := true) (fun v hv => ⟨Tryz.f33, [v], by kernel_rfl, rfl, by subst hv; kernel_rfl⟩) (fun S => ?_)
  rw [v33]
  refine ⟨rfl, _, (in_c k 1 4).use S _, fun b S1 hR => ?_⟩
  obtain ⟨hE, hb⟩ := hR
  cases hb
  refine ⟨fun _ => ?_, fun hb => ?_⟩
  · refine ⟨_, _, _, rfl, by omega, by omega, ?_⟩
    obtain rfl | rfl | rfl | rfl : k = 1 ∨ k = 2 ∨ k = 3 ∨ k = 4 := by omega
    all_goals
      refine ⟨⟨_, rfl, rfl⟩, fun s hs => ?_⟩
      cases hs
      exact ⟨rfl, hE.trans (Ext.born S1 _), rfl⟩
  · rw [decide_eq_true h1, decide_eq_true h4] at hb
    cases hb
def iShow2 (S : St) (x : AL) (l : List Nt) : Nat → KE := fun m env S' L => L = [] ∧ Ext S S' ∧ ∃ i : Nat, env = [(8, .v (int i)), (7, .v (int l.length)), (6, .v (.one x)), (3, .v (str (showN (l.take i)))), (2, .v (str ⟨⟨[]⟩⟩))] ∧ i ≤ l.length ∧ m = l.length - i
theorem ShowNotes2_c {x : AL} {l : List Nt} (h : Vw Nt.cells x l) (ho : NtsOk l) : CON w0 10 [.one x] (fun v => v = str (showN l)) := by
  refine Con.of_fn (plans := pl10) hT hmo (nov := true) (fun v hv => ⟨Tryz.f10, [v], by kernel_rfl, rfl, by subst hv; kernel_rfl⟩) (fun S => ?_)
  rw [v10]
  refine ⟨rfl, _, h.len, [8, 7, 6, 3, 2], iShow2 S x l, l.length, ⟨rfl, Ext.refl S, 0, rfl, Nat.zero_le _, rfl⟩, ?_⟩
  rintro m env S1 L1 ⟨rfl, hE, i, rfl, hi, rfl⟩
  refine WSem.of hT hmo (nov := true) (plans := pl10) (f := 1000) ?_
  rw [b10_0]
  have hol := ho.len
  refine ⟨fun hlt => ?_, fun hge => ?_⟩
  · have hlt := lt_of_dec hlt
    obtain ⟨a, ha⟩ : ∃ a, l[i]? = some a := ⟨_, List.getElem?_eq_getElem hlt⟩
    have ham := List.mem_of_getElem? ha
    have hk := ho.k a ham
    have hn := ho.name a ham
    have hs := showN_size ho i hi
    have hs2 : i * 1000010 ≤ 100000 * 1000010 := Nat.mul_le_mul_right _ (by omega)
    have hw := wordN_size a.k
    have e1 : (ByteArray.mk (Array.mk [32])).size = 1 := rfl
    have e2 : (ByteArray.mk (Array.mk [10])).size = 1 := rfl
    obtain ⟨tok, n, xs, g1, g2, g3, g4, g5, g6⟩ := rdA Nt_len h ha (zs := [.int .i64 0, .str ⟨⟨[]⟩⟩]) rfl (H := fun ys => ys = a.cells) rfl
    refine ⟨tok, n, xs, g1, g2, g3, g4, g5, fun k s hks => ?_⟩
    rw [g6] at hks
    cases hks
    have fin : ∀ S2, Ext S S2 → (wordN a.k).size + 1 ≤ 9223372036854775807 ∧ (wordN a.k ++ ByteArray.mk (Array.mk [32])).size + a.name.size ≤ 9223372036854775807 ∧ (wordN a.k ++ ByteArray.mk (Array.mk [32]) ++ a.name).size + 1 ≤ 9223372036854775807 ∧
        (showN (l.take i)).size + (wordN a.k ++ ByteArray.mk (Array.mk [32]) ++ a.name ++ ByteArray.mk (Array.mk [10])).size ≤ 9223372036854775807 ∧ in64 ((i : Int) + 1) ∧
        loopK (iShow2 S x l) 0 (l.length - i) (KT w0 24 [Kn.blk 0, Kn.seq (CO 10 [1, 1, 1])] (WE Tryz.f10 S.boxes.length (E S fun v => v = str (showN l)))) .normal
          [(8, .v (int ((i : Int) + 1))), (7, .v (int l.length)), (6, .v (.one x)), (3, .v (str (showN (l.take i) ++ (wordN a.k ++ ByteArray.mk (Array.mk [32]) ++ a.name ++ ByteArray.mk (Array.mk [10]))))), (2, .v (str ⟨⟨[]⟩⟩))] S2 [(36, a.cells)] := by
      intro S2 hE2
      refine ⟨by omega, by rw [ByteArray.size_append]; omega, by simp only [ByteArray.size_append]; omega, by simp only [ByteArray.size_append]; omega, by unfold in64; omega, loopK.again (L' := []) (m' := l.length - (i + 1)) trivial rfl (by omega) ⟨rfl, hE2, i + 1, ?_, hlt, rfl⟩⟩
      rw [take_next ha, showN_app]
      rfl
    have call : ∀ {H : BA → St → Prop}, (∀ S2, Ext S S2 → H (wordN a.k) S2) → ∃ R, (realHk Tryz.prog w0 (tabOf Tryz.prog)).1 33 [int a.k] S1 [(36, a.cells)] R ∧ ∀ (s : BA) (S2 : St), R (str s) S2 → H s S2 := by
      intro H hH
      refine ⟨_, (noteWord_c hk.1 hk.2).use S1 _, fun s S2 hR => ?_⟩
      obtain ⟨hE2, he⟩ := hR
      cases he
      exact hH S2 (hE.trans hE2)
    refine ⟨rfl, ⟨call (fun S2 hE2 => ⟨(fin S2 hE2).1, (fin S2 hE2).2, trivial⟩), ⟨call (fun S2 hE2 => fin S2 hE2), trivial⟩, trivial⟩, ⟨⟨call (fun S2 hE2 => fin S2 hE2), trivial⟩, trivial⟩, trivial⟩
  · have hge := ge_of_dec hge
    refine loopK.exit (L' := []) trivial rfl (kont.of hT hmo (nov := true) (plans := pl10) (f := 1000) ?_)
    rw [x10_0, take_all hge]
    exact ⟨rfl, hE, rfl⟩
def iNotes (S : St) (y : AL) (l : List BA) (k : Int) : Nat → KE := fun mm env S' L => L = [] ∧ ∃ (i : Nat) (r : AL), env = [(11, .v (int i)), (10, .v (int l.length)), (9, .v (.one y)), (5, .v (.one r)), (4, .v (.one .nilsl)), (0, .v (int k))] ∧ Grew S S' r ∧ i ≤ l.length ∧ mm = l.length - i ∧ RN S' r (nts k (l.take i))
theorem notes_c {y : AL} {l : List BA} (k : Int) (hy : Vw Rq y l) (hl : l.length ≤ 100000) : CONR 24 [int k, .one y] (rRowG Nt.cells 36 2 (nts k l)) := by
  refine ConR.of_fn (plans := np) hT hmo (nov := true) rRowG.loc (rRowG.sh (fn := Tryz.f24) (by kernel_rfl) (by kernel_rfl)) (fun w0 S => ?_)
  rw [v24]
  refine ⟨rfl, _, hy.len, [11, 10, 9, 5, 4, 0], iNotes S y l k, l.length, ⟨rfl, 0, _, rfl, Grew.born (Ext.refl S) _, Nat.zero_le _, rfl, Row.born _ _ _⟩, ?_⟩
  rintro mm env S1 L1 ⟨rfl, i, r, rfl, hG, hi, rfl, hr⟩
  refine WSem.of hT hmo (nov := true) (plans := np) (f := 1000) ?_
  rw [b24_0]
  refine ⟨fun hlt => ?_, fun hge => ?_⟩
  · have hlt := lt_of_dec hlt
    obtain ⟨a, ha⟩ : ∃ a, l[i]? = some a := ⟨_, List.getElem?_eq_getElem hlt⟩
    refine rd1 hy ha ?_
    obtain ⟨r2, S4, g1, g2, g3, g4, g5, g6, g7⟩ := hr.pushN ⟨k, a⟩ (by rw [nts, List.length_map, List.length_take]; omega) (2, 36, 2)
    refine ⟨rfl, r2, S4, g1, by unfold in64; omega, loopK.again (L' := []) (m' := l.length - (i + 1)) trivial rfl (by omega) ⟨rfl, i + 1, r2, rfl, hG.push g3 g4 g5 g6 g7, hlt, rfl, ?_⟩⟩
    rw [nts_next ha]
    exact g2
  · have hge := ge_of_dec hge
    refine loopK.exit (L' := []) trivial rfl (kont.of hT hmo (nov := true) (plans := np) (f := 1000) ?_)
    rw [x24_0]
    rw [take_all hge] at hr
    exact ⟨rfl, hG.ext, r, rfl, hr, hG.new⟩
end Go.Proofs.YtkdickfiifpblaaGreatDoor.D
namespace Go.Den
open Go.RowKit
section
variable {P : Program} {w0 : World} {T : Tab} {n : Nat}
mutual
def Plan.graft : Plan → Plan → Plan
  | .done, q => q
  | .take i p, q => .take i (p.graft q)
  | .all l, q => .all (graftL l q)
def graftL : List (Nat × Plan) → Plan → List (Nat × Plan)
  | [], _ => []
  | (i, p) :: r, q => (i, p.graft q) :: graftL r q
end
mutual
theorem dPlan_graft {ops : Array Oper} {q : Plan} {K : Rho → St → Prop} : ∀ (p : Plan) (ρ : Rho) (S : St), dPlan P w0 T n ops p ρ S (fun ρ S => dPlan P w0 T n ops q ρ S K) → dPlan P w0 T n ops (p.graft q) ρ S K
  | .done, ρ, S, h => by unfold dPlan at h; unfold Plan.graft; exact h
  | .take i p, ρ, S, h => by
    unfold Plan.graft
    unfold dPlan at h ⊢
    cases ho : ops[i]? with
    | none => rw [ho] at h; exact h.elim
    | some o => rw [ho] at h; exact dOne_mono (fun ρ S => dPlan_graft p ρ S) h
  | .all l, ρ, S, h => by unfold Plan.graft; unfold dPlan at h ⊢; exact dPlanL_graft l ρ S h
theorem dPlanL_graft {ops : Array Oper} {q : Plan} {K : Rho → St → Prop} : ∀ (l : List (Nat × Plan)) (ρ : Rho) (S : St), dPlanL P w0 T n ops l ρ S (fun ρ S => dPlan P w0 T n ops q ρ S K) → dPlanL P w0 T n ops (graftL l q) ρ S K
  | [], ρ, S, h => by unfold graftL dPlanL; trivial
  | (i, p) :: r, ρ, S, h => by
    unfold graftL
    unfold dPlanL at h ⊢
    refine ⟨?_, dPlanL_graft r ρ S h.2⟩
    have h := h.1
    cases ho : ops[i]? with
    | none => rw [ho] at h; exact h.elim
    | some o =>
      rw [ho] at h
      rcases h with h | ⟨h1, h2, h3⟩
      · exact .inl (dOne_mono (fun ρ S => dPlan_graft p ρ S) h)
      · exact .inr ⟨h1, h2, fun A E G a w K1 Q hA hG hE hW k => h3 A E G a w K1 Q hA hG hE hW (fun ρ' S' H a' w' hk => k ρ' S' H a' w' (dPlan_graft p ρ' S' hk))⟩
end

end
end Go.Den
namespace Go.Den
open Go.RowKit
section
variable {P : Program} {w0 : World} {T : Tab} {n : Nat} {A : Nat → Prop} {S : St} {G : Ghost} {w : World}
theorem WR.drewN (h : WR w0 A S G w) (q : Nat) : WR w0 A S G (w.drewN q) := ⟨h.prot, h.tok, h.later, h.hlt, h.box, h.more, h.boxes, h.rows, h.apart, h.size, ⟨h.below.os, h.below.tape, h.below.output, h.below.size, h.below.block⟩, h.own, h.up, h.ylt, h.hall, h.basep, h.oldt⟩
theorem WR.grown (h : WR w0 A S G w) (os : Array Obj) : WR w0 A S G (Sort.grow w os) := by
  have hb : ∀ b, b < w.heap.size → (Sort.grow w os).heap[b]? = w.heap[b]? := fun b hb => Sort.heap_grow_old w os hb
  have hs : w.heap.size ≤ (Sort.grow w os).heap.size := by rw [Sort.size_grow]; omega
  refine ⟨fun b i v hp => ?_, fun t n e s ht => ?_, h.later, fun t b c hh => Nat.lt_of_lt_of_le (h.hlt t b c hh) hs, fun i t cs hi => ?_, h.more, h.boxes, h.rows, h.apart, Nat.le_trans h.size hs, ?_, h.own, fun b hb2 => h.up b (Nat.le_trans hs hb2), h.ylt, h.hall, h.basep, h.oldt⟩
  · rw [Sort.cell?_grow _ _ _ (h.lt hp)]
    exact h.prot b i v hp
  · obtain ⟨b, cap, cur, g1, g2, g3, g4⟩ := h.tok t n e s ht
    exact ⟨b, cap, cur, g1, g2, (hb b (h.hlt t b cap g1)).trans g3, g4⟩
  · obtain ⟨b, vs, g1, g2, g3, g4⟩ := h.box i t cs hi
    exact ⟨b, vs, g1, g2, (hb b (h.box_lt g1).2).trans g3, g4⟩
  · exact h.below.trans ⟨rfl, rfl, rfl, hs, fun k hk => hb k (Nat.lt_of_lt_of_le hk h.size)⟩
def TotP (P : Program) (w0 : World) (tk : Nat) (vs : List AL) (f : FuncId) (args : List AV) (S : St) (Q : AV → Prop) : Prop :=
  Callable P f ∧ ∀ (A : Nat → Prop) (G : Ghost) (w : World) (us : Array Value), WR w0 A S G w → RepA G args us.toList →
    Calls P f us w fun e w' => ∃ v vr H, e = .returned vr ∧ (G.but [tk]).Le H ∧ RepV H v vr ∧ WR w0 A (S.put tk 0 vs) H w' ∧ (∀ x v, RepL G x v → RepL H (x.put S.has tk 0 vs) v) ∧ Q v
theorem SemOne.callP (hT : T.Ok P) {ops : Array Oper} {o : Oper} {ρ : Rho} {S : St} {K : Rho → St → Prop} (hw : dWant ops (EV n ρ) o = some true) {f : FuncId} {args : List AV} {tk : Nat} {vs : List AL} {Q : AV → Prop}
    (hop : dOper T (EV n ρ) S o.op = some (.call f args)) (hy : tk ∈ S.young) (h : TotP P w0 tk vs f args S Q) (hK : ∀ v, Q v → K (upd (fun i => (ρ i).put S.has tk 0 vs) o.dst v) (S.put tk 0 vs)) : SemOne P w0 n ops o ρ S K := by
  refine ⟨hw, fun A E G a w K' Q' hA hG hE hW kk => ?_⟩
  unfold Oper.wp
  obtain ⟨us, hra, hrun⟩ := dOper_ok hT hW hE hop
  rw [hrun h.1, Oper.upon_enter]
  refine (h.2 A G w us hW hra).mono ?_
  rintro e w' ⟨v, vr, H, rfl, hle, hv, hw', rep, hq⟩
  refine kk _ _ H _ _ (hK v hq) ⟨fun b i u hu => hle.prot b i u ?_, fun t x hx => hle.hdr t x (hG.hdr t x hx), fun i b hb => hle.box i b (hG.box i b hb), hle.base.trans hG.base⟩ (by rw [← EV_put]; exact (hE.putV hle rep).put' o.dst hv) (put_defers _ _ _) hw'
  rw [G.but_none [tk] b i]
  · exact hG.prot b i u hu
  · rintro ⟨t, c, ht', hh'⟩
    rw [List.mem_singleton.1 ht'] at hh'
    rw [hA b i (hW.own tk b c hy hh')] at hu
    cases hu
theorem dOneY_val {ops : Array Oper} {o : Oper} {ρ : Rho} {S S' : St} {K : Rho → St → Prop} {v : AV} (hw : o.guard = none) (h : dOper T (EV n ρ) S o.op = some (.val v S')) (hk : K (upd ρ o.dst v) S') : dOneY P w0 T n ops o ρ S K := by
  refine .inl ?_
  unfold dOne dWant
  rw [hw, h]
  exact hk
theorem dOneY_call {ops : Array Oper} {o : Oper} {ρ : Rho} {S : St} {K : Rho → St → Prop} {f : FuncId} {args : List AV} {Q : AV → St → Prop} (hw : o.guard = none) (h : dOper T (EV n ρ) S o.op = some (.call f args)) (ht : Tot P w0 f args S Q) (hk : ∀ v S', Q v S' → K (upd ρ o.dst v) S') : dOneY P w0 T n ops o ρ S K := by
  refine .inl ?_
  unfold dOne dWant
  rw [hw, h]
  exact .inl (ht.mono fun v S' hq => hk v S' hq)
theorem dOneY_callP (hT : T.Ok P) (ho : T.own = true) {ops : Array Oper} {o : Oper} {ρ : Rho} {S : St} {K : Rho → St → Prop} {f : FuncId} {args : List AV} {tk : Nat} {vs : List AL} {Q : AV → Prop} (hw : o.guard = none) (h : dOper T (EV n ρ) S o.op = some (.call f args)) (hy : tk ∈ S.young)
    (ht : TotP P w0 tk vs f args S Q) (hk : ∀ v, Q v → K (upd (fun i => (ρ i).put S.has tk 0 vs) o.dst v) (S.put tk 0 vs)) : dOneY P w0 T n ops o ρ S K :=
  .inr ⟨ho, SemOne.callP hT (by unfold dWant; rw [hw]) h hy ht hk⟩
def clrB (S : St) (tk : Nat) (L : List (TypeId × List AL)) : Prop := ∀ b, b ∈ L → clrs S.has tk b.2 = true
theorem AL.put_clr {p : Nat → Bool} {tk off : Nat} {vs : List AL} {x : AL} (h : x.clr p tk = true) : x.put p tk off vs = x := by
  cases x with
  | sl tok len xs =>
    cases tok with
    | none => simp [AL.clr] at h
    | some u =>
      have h' := h
      rw [AL.clr, Bool.and_eq_true, Bool.and_eq_true, Bool.not_eq_true'] at h'
      rw [AL.put, if_neg (Nat.ne_of_beq_eq_false h'.1.1), if_pos h]
  | _ => rfl
theorem putB_clr {S : St} {tk off : Nat} {vs : List AL} {L : List (TypeId × List AL)} (h : clrB S tk L) : putB S.has tk off vs L = L := by
  unfold putB
  conv => rhs; rw [← List.map_id L]
  refine List.map_congr_left fun b hb => ?_
  refine Prod.ext rfl ?_
  show b.2.map _ = b.2
  conv => rhs; rw [← List.map_id b.2]
  exact List.map_congr_left fun x hx => AL.put_clr (clrs_mem (h b hb) x hx)
theorem St.put_clr {S : St} {tk off : Nat} {vs : List AL} (h : clrB S tk S.boxes) : S.put tk off vs = S := by
  unfold St.put
  rw [putB_clr h]
end
end Go.Den
namespace Go.Proofs.YtkdickfiifpblaaGreatDoor.D
open Go Go.Den Go.Proofs
set_option maxRecDepth 100000
def srt (l : List (List UInt8)) : List (List UInt8) := l.mergeSort fun x y => decide (x ≤ y)
theorem srt_len (l : List (List UInt8)) : (srt l).length = l.length := (List.mergeSort_perm _ _).length_eq
theorem srt_mem (l : List (List UInt8)) (x : List UInt8) : x ∈ srt l ↔ x ∈ l := (List.mergeSort_perm _ _).mem_iff
theorem srt_le (l : List (List UInt8)) : (srt l).Pairwise (· ≤ ·) := by
  have := List.pairwise_mergeSort (le := fun x y : List UInt8 => decide (x ≤ y)) (fun a b c h1 h2 => decide_eq_true (List.le_trans (of_decide_eq_true h1) (of_decide_eq_true h2)))
    (fun a b => by
      rcases List.le_total a b with h | h
      · simp [h]
      · simp [h]) l
  exact this.imp fun h => of_decide_eq_true h
theorem compact_rise {d : List (List UInt8)} (h : d.Pairwise (· ≤ ·)) : (Lib.compact d).Pairwise (· < ·) := by
  have get : ∀ j, j < d.length → d.toArray[j]! = d[j]! := fun j hj => by simp
  have hle : ∀ i j, i ≤ j → j < d.length → d[i]! ≤ d[j]! := by
    intro i j hij hj
    rcases Nat.lt_or_eq_of_le hij with hlt | rfl
    · have := List.pairwise_iff_getElem.1 h i j (by omega) hj hlt
      rw [getElem!_pos d i (by omega), getElem!_pos d j hj]
      exact this
    · exact List.le_refl _
  unfold Lib.compact Lib.compactUpTo
  rw [List.pairwise_map]
  have hp : ((List.range d.length).filter (Lib.keeps d.toArray)).Pairwise fun i j => i < j := (List.pairwise_lt_range).filter _
  refine hp.imp_of_mem ?_
  intro i j hi hj hij
  obtain ⟨hjr, hjk⟩ := List.mem_filter.1 hj
  have hjl := List.mem_range.1 hjr
  rw [get i (by omega), get j hjl]
  unfold Lib.keeps at hjk
  have hjk := of_decide_eq_true hjk
  rcases hjk with h0 | hne
  · omega
  · rw [get j hjl, get (j - 1) (by omega)] at hne
    have h1 := hle i (j - 1) (by omega) (by omega)
    have h2 := hle (j - 1) j (by omega) hjl
    have h3 : d[j - 1]! < d[j]! := by
      apply Classical.byContradiction
      intro hc
      exact hne (List.le_antisymm (List.not_lt.1 hc) h2)
    apply Classical.byContradiction
    intro hc
    exact absurd h3 (List.not_lt.2 (List.le_trans (List.not_lt.1 hc) h1))
theorem compact_mem {d : List (List UInt8)} (x : List UInt8) : x ∈ Lib.compact d ↔ x ∈ d := by
  unfold Lib.compact Lib.compactUpTo
  rw [List.mem_map]
  constructor
  · rintro ⟨j, hj, rfl⟩
    have hjl := List.mem_range.1 (List.mem_filter.1 hj).1
    rw [show d.toArray[j]! = d[j]! by simp, getElem!_pos d j hjl]
    exact List.getElem_mem _
  · intro hx
    obtain ⟨i, hi, rfl⟩ := List.getElem_of_mem hx
    have key : ∀ j, j < d.length → ∃ i, i ∈ (List.range d.length).filter (Lib.keeps d.toArray) ∧ d.toArray[i]! = d[j]! := by
      intro j
      induction j with
      | zero =>
        intro hj
        refine ⟨0, List.mem_filter.2 ⟨List.mem_range.2 hj, by simp [Lib.keeps]⟩, by simp⟩
      | succ j ih =>
        intro hj
        by_cases he : d[j + 1]! = d[j]!
        · rw [he]
          exact ih (by omega)
        · refine ⟨j + 1, List.mem_filter.2 ⟨List.mem_range.2 hj, ?_⟩, by simp⟩
          unfold Lib.keeps
          apply decide_eq_true
          right
          simpa using he
    obtain ⟨k, hk, he⟩ := key i hi
    exact ⟨k, hk, by rw [he, getElem!_pos d i hi]⟩
abbrev mkB (l : List UInt8) : BA := ⟨l.toArray⟩
theorem mkB_data (s : BA) : mkB s.data.toList = s := by cases s; rfl
def rise (l : List BA) : List BA := (Lib.compact (srt (l.map (·.data.toList)))).map mkB
theorem rise_set (l : List BA) : IsSet (rise l) (fun x => x ∈ l) := by
  refine ⟨?_, fun x => ?_⟩
  · unfold rise
    rw [List.pairwise_map]
    refine (compact_rise (srt_le _)).imp fun {a b} h => ?_
    rw [bl_lt, ByteArray.toList_eq, ByteArray.toList_eq]
    exact decide_eq_true (by simpa using h)
  · unfold rise
    rw [List.mem_map]
    constructor
    · rintro ⟨y, hy, rfl⟩
      rw [compact_mem, srt_mem, List.mem_map] at hy
      obtain ⟨z, hz, rfl⟩ := hy
      rw [mkB_data]
      exact hz
    · intro hx
      exact ⟨x.data.toList, by rw [compact_mem, srt_mem, List.mem_map]; exact ⟨x, hx, rfl⟩, mkB_data x⟩
theorem rise_eq (l : List BA) : rise l = setOf l := (rise_set l).uniq (setOf_is l)
end Go.Proofs.YtkdickfiifpblaaGreatDoor.D
namespace Go.Proofs
open Go.Shelf
def Tryz.lays190_ren : Go.Shelf.Ren := ⟨fun | 190 => 54 | 125 => 71 | 258 => 70 | 128 => 96 | 129 => 97 | 302 => 87 | 303 => 88 | 304 => 89 | 305 => 90 | 306 => 91 | 307 => 92 | 308 => 93 | 309 => 94 | 310 => 95 | 333 => 114 | 329 => 115 | 330 => 116 | 334 => 117 | 335 => 118 | 336 => 119 | 344 => 124 | n => n, fun | 31 => 24 | 9 => 9 | 3 => 3 | 46 => 99 | 0 => 0 | 51 => 122 | 53 => 124 | 4 => 4 | 183 => 114 | 182 => 113 | 131 => 119 | 5 => 5 | 218 => 136 | 222 => 140 | 228 => 145 | 229 => 128 | n => n, fun | n => n⟩
theorem Tryz.lays190 : Go.Proofs.Lays.n190 Tryz.prog Tryz.lays190_ren := {
  mixed := by kernel_rfl
  f125 := Tryz.func71.trans (congrArg some (by kernel_rfl))
  f128 := Tryz.func96.trans (congrArg some (by kernel_rfl))
  f129 := Tryz.func97.trans (congrArg some (by kernel_rfl))
  f190 := Tryz.func54.trans (congrArg some (by kernel_rfl))
  f258 := Tryz.func70.trans (congrArg some (by kernel_rfl))
  f302 := Tryz.func87.trans (congrArg some (by kernel_rfl))
  f303 := Tryz.func88.trans (congrArg some (by kernel_rfl))
  f304 := Tryz.func89.trans (congrArg some (by kernel_rfl))
  f305 := Tryz.func90.trans (congrArg some (by kernel_rfl))
  f306 := Tryz.func91.trans (congrArg some (by kernel_rfl))
  f307 := Tryz.func92.trans (congrArg some (by kernel_rfl))
  f308 := Tryz.func93.trans (congrArg some (by kernel_rfl))
  f309 := Tryz.func94.trans (congrArg some (by kernel_rfl))
  f310 := Tryz.func95.trans (congrArg some (by kernel_rfl))
  f329 := Tryz.func115.trans (congrArg some (by kernel_rfl))
  f330 := Tryz.func116.trans (congrArg some (by kernel_rfl))
  f333 := Tryz.func114.trans (congrArg some (by kernel_rfl))
  f334 := Tryz.func117.trans (congrArg some (by kernel_rfl))
  f335 := Tryz.func118.trans (congrArg some (by kernel_rfl))
  f336 := Tryz.func119.trans (congrArg some (by kernel_rfl))
  f344 := Tryz.func124.trans (congrArg some (by kernel_rfl))
  t0 := Tryz.underlying0
  a0 := Tryz.isAgg0
  z0 := Tryz.sizeOf0
  v0 := Tryz.zeroValue0
  t3 := Tryz.underlying3
  a3 := Tryz.isAgg3
  z3 := Tryz.sizeOf3
  v3 := Tryz.zeroValue3
  t4 := Tryz.underlying4
  a4 := Tryz.isAgg4
  z4 := Tryz.sizeOf4
  v4 := Tryz.zeroValue4
  t5 := Tryz.underlying5
  a5 := Tryz.isAgg5
  z5 := Tryz.sizeOf5
  v5 := Tryz.zeroValue5
  t9 := Tryz.underlying9
  a9 := Tryz.isAgg9
  z9 := Tryz.sizeOf9
  v9 := Tryz.zeroValue9
  t31 := Tryz.underlying24
  a31 := Tryz.isAgg24
  z31 := Tryz.sizeOf24
  v31 := Tryz.zeroValue24
  t46 := Tryz.underlying99
  a46 := Tryz.isAgg99
  z46 := Tryz.sizeOf99
  v46 := Tryz.zeroValue99
  t51 := Tryz.underlying122
  a51 := Tryz.isAgg122
  z51 := Tryz.sizeOf122
  v51 := Tryz.zeroValue122
  t53 := Tryz.underlying124
  a53 := Tryz.isAgg124
  z53 := Tryz.sizeOf124
  v53 := Tryz.zeroValue124
  t131 := Tryz.underlying119
  a131 := Tryz.isAgg119
  z131 := Tryz.sizeOf119
  v131 := Tryz.zeroValue119
  t182 := Tryz.underlying113
  a182 := Tryz.isAgg113
  z182 := Tryz.sizeOf113
  v182 := Tryz.zeroValue113
  t183 := Tryz.underlying114
  a183 := Tryz.isAgg114
  z183 := Tryz.sizeOf114
  v183 := Tryz.zeroValue114
  t218 := Tryz.underlying136
  a218 := Tryz.isAgg136
  z218 := Tryz.sizeOf136
  v218 := Tryz.zeroValue136
  t222 := Tryz.underlying140
  a222 := Tryz.isAgg140
  z222 := Tryz.sizeOf140
  v222 := Tryz.zeroValue140
  t228 := Tryz.underlying145
  a228 := Tryz.isAgg145
  z228 := Tryz.sizeOf145
  v228 := Tryz.zeroValue145
  t229 := Tryz.underlying128
  a229 := Tryz.isAgg128
  z229 := Tryz.sizeOf128
  v229 := Tryz.zeroValue128 }
open Go.Sort Go.RowKit in
theorem Tryz.slices_Sort_string (blk off cap : Nat) (ss : List (List UInt8)) (w : World) (hH : Holds encStr w blk off ss.toArray) (hblk : blk < w.heap.size) (hsz : ss.length < 4611686018427387904) :
    Calls Tryz.prog 54 #[.slice (some ⟨blk, off, none⟩) ss.length cap] w fun e w' =>
      e = .returned (.tuple #[]) ∧ ∃ n os, w' = grow (putRow encStr (Sort.ahead w n) blk off (ss.mergeSort fun x y => decide (x ≤ y)).toArray) os := Any.slices_Sort_string Tryz.lays190 blk off cap ss w hH hblk hsz
def Tryz.lays194_ren : Go.Shelf.Ren := ⟨fun | 194 => 55 | n => n, fun | 31 => 24 | 9 => 9 | 3 => 3 | 4 => 4 | 0 => 0 | n => n, fun | n => n⟩
theorem Tryz.lays194 : Go.Proofs.Lays.n194 Tryz.prog Tryz.lays194_ren := {
  mixed := by kernel_rfl
  f194 := Tryz.func55.trans (congrArg some (by kernel_rfl))
  t0 := Tryz.underlying0
  a0 := Tryz.isAgg0
  z0 := Tryz.sizeOf0
  v0 := Tryz.zeroValue0
  t3 := Tryz.underlying3
  a3 := Tryz.isAgg3
  z3 := Tryz.sizeOf3
  v3 := Tryz.zeroValue3
  t4 := Tryz.underlying4
  a4 := Tryz.isAgg4
  z4 := Tryz.sizeOf4
  v4 := Tryz.zeroValue4
  t9 := Tryz.underlying9
  a9 := Tryz.isAgg9
  z9 := Tryz.sizeOf9
  v9 := Tryz.zeroValue9
  t31 := Tryz.underlying24
  a31 := Tryz.isAgg24
  z31 := Tryz.sizeOf24
  v31 := Tryz.zeroValue24 }
theorem Tryz.slices_Compact_string_empty (a : Option Addr) (cap : Nat) (w : World) :
    Calls Tryz.prog 55 #[.slice a 0 cap] w fun e w' => e = .returned (.slice a 0 cap) ∧ w' = w := Any.slices_Compact_string_empty Tryz.lays194 a cap w
theorem Tryz.slices_Compact_string_cells (b off n c : Nat) (Sx : Nat → ByteArray) (w : World) (hbig : n ≤ 9223372036854775807) (hcap : n ≤ c) (hc : ∀ i, i < n → w.cell? ⟨b, off + i, none⟩ = some (.string (Sx i))) (hf : ∀ j, j < n → w.frozen? ⟨b, off + j, none⟩ = false) :
    Calls Tryz.prog 55 #[.slice (some ⟨b, off, none⟩) n c] w fun e w' => e = .returned (.slice (some ⟨b, off, none⟩) (Lib.compact (Lib.strsOf Sx n)).length c) ∧ ∃ q, w' = (w.drewN q).setCells b off ((Lib.compact (Lib.strsOf Sx n) ++ List.replicate (n - (Lib.compact (Lib.strsOf Sx n)).length) []).map encStr) := Any.slices_Compact_string_cells Tryz.lays194 b off n c Sx w hbig hcap hc hf
theorem Tryz.slices_Sort_string_none (p : Option Addr) (cap : Nat) (w : World) :
    Calls Tryz.prog 54 #[.slice p 0 cap] w fun e w' => e = .returned (.tuple #[]) ∧ w' = w := Any.slices_Sort_string_none Tryz.lays190 p cap w
end Go.Proofs
namespace Go.Proofs.YtkdickfiifpblaaGreatDoor.D
open Go Go.Den Go.Proofs
set_option maxRecDepth 100000
variable {w0 : World} {S : St}
theorem flatRq (l : List BA) : l.flatMap Rq = l.map AL.str := by
  induction l with
  | nil => rfl
  | cons x xs ih => rw [List.flatMap_cons, ih]; rfl
theorem clrs_str {p : Nat → Bool} {tk : Nat} : ∀ l : List BA, clrs p tk (l.map AL.str) = true
  | [] => rfl
  | _ :: l => by rw [List.map_cons, clrs, clrs_str l]; rfl
theorem strs_open {A : Nat → Prop} {G : Ghost} {w : World} (hW : WR w0 A S G w) {tk m e s : Nat} (ht : S.tok tk = some (m, e, s)) {l : List BA} {v : Value} (r : RepL G (.sl (some tk) l.length (l.flatMap Rq)) v) :
    ∃ b cap, v = .slice (some ⟨b, 0, none⟩) l.length cap ∧ G.hdr tk = some (b, cap) ∧ l.length ≤ cap ∧ b < w.heap.size ∧ (∀ i, i < l.length → w.cell? ⟨b, 0 + i, none⟩ = some (.string (l.getD i ⟨#[]⟩))) ∧ (∀ i, w.frozen? ⟨b, i, none⟩ = false) := by
  cases r with
  | @sl _ _ cap b o _ f hc hp hx htk =>
    obtain ⟨rfl, hh⟩ := htk tk rfl
    obtain ⟨b', cap', cur, h1, h2, h3, _⟩ := hW.tok tk m e s ht
    rw [hh] at h1
    cases h1
    refine ⟨b, cap, rfl, hh, hc, hW.hlt tk b cap hh, fun i hi => ?_, fun i => by simp [World.frozen?, h3]⟩
    have hp' := hp i (by rw [flatRq, List.length_map]; exact hi)
    have hx' := hx i (.str (l.getD i ⟨#[]⟩)) (by rw [flatRq, List.getElem?_map, List.getElem?_eq_getElem hi, List.getD_eq_getElem?_getD, List.getElem?_eq_getElem hi]; rfl)
    have : f i = .string (l.getD i ⟨#[]⟩) := by
      generalize f i = z at hx'
      cases hx'
      rfl
    rw [hW.prot b (0 + i) (f i) hp', this]
theorem encs {G0 : Ghost} (l : List (List UInt8)) : RepC G0 ((l.map mkB).flatMap Rq) (l.map encStr) := by
  refine ⟨by rw [flatRq]; simp, fun i x v hx hv => ?_⟩
  rw [flatRq, List.getElem?_map, List.getElem?_map] at hx
  rw [List.getElem?_map] at hv
  cases hl : l[i]? with
  | none => rw [hl] at hx; cases hx
  | some y =>
    rw [hl] at hx hv
    cases hx
    cases hv
    exact .str _
abbrev dat (l : List BA) : List (List UInt8) := l.map fun s => s.data.toList
theorem dat_mkB (x : List (List UInt8)) : dat (x.map mkB) = x := by
  unfold dat
  rw [List.map_map]
  exact (List.map_congr_left fun a _ => by simp).trans (List.map_id x)
def srtB (l : List BA) : List BA := (srt (dat l)).map mkB
theorem srtB_len (l : List BA) : (srtB l).length = l.length := by unfold srtB; rw [List.length_map, srt_len, List.length_map]
theorem Sort_P {tk m e s : Nat} (ht : S.tok tk = some (m, e, s)) {l : List BA} (hl : l.length ≤ m) (hn : l.length ≤ 1000000) : TotP Tryz.prog w0 tk ((srtB l).flatMap Rq) 54 [.one (.sl (some tk) l.length (l.flatMap Rq))] S (fun v => v = .tup []) := by
  refine ⟨⟨Tryz.f54, by kernel_rfl, by kernel_rfl, by kernel_rfl⟩, fun A G w us hW hA => ?_⟩
  obtain ⟨us⟩ := us
  cases hA with
  | cons hv hr =>
    cases hr
    cases hv with
    | one r =>
      obtain ⟨b, cap, rfl, hh, hc, hb, hcell, hfz⟩ := strs_open hW ht r
      have hH : Sort.Holds encStr w b 0 (dat l).toArray := by
        intro j hj
        have hj : j < l.length := by simpa using hj
        refine ⟨?_, hfz _⟩
        rw [hcell j hj, List.getD_eq_getElem?_getD, List.getElem?_eq_getElem hj]
        simp [encStr, hj]
      have h := Tryz.slices_Sort_string b 0 cap (dat l) w hH hb (by rw [List.length_map]; omega)
      rw [List.length_map] at h
      refine h.mono ?_
      rintro e' w' ⟨rfl, q, os, rfl⟩
      have e1 := Lib.putRow_eq_setCells encStr w b 0 _ (srt (dat l)) q hH (by rw [srt_len]; simp)
      have hr : RepC G ((srtB l).flatMap Rq) ((srt (dat l)).map encStr) := encs _
      have hp : clrs S.has tk ((srtB l).flatMap Rq) = true := by rw [flatRq]; exact clrs_str _
      have hoff : 0 + ((srtB l).flatMap Rq).length ≤ m := by rw [flatRq, List.length_map, srtB_len]; omega
      obtain ⟨H, hle, hW', rep⟩ := (hW.drewN q).put ht hr hp hoff hh
      refine ⟨.tup [], .tuple #[], H, rfl, hle, .tup (xs := []) (fun _ => Go.undef) (fun i x hx => by simp at hx), ?_, rep, rfl⟩
      have e2 : Sort.putRow encStr (Sort.ahead w q) b 0 ((dat l).mergeSort fun x y => decide (x ≤ y)).toArray = (w.drewN q).setCells b 0 ((srt (dat l)).map encStr) := e1
      rw [e2]
      exact hW'.grown os
def cmpB (l : List BA) : List BA := (Lib.compact (dat l) ++ List.replicate (l.length - (Lib.compact (dat l)).length) []).map mkB
theorem cmp_le (l : List BA) : (Lib.compact (dat l)).length ≤ l.length := by
  have := Lib.compact_length_le (dat l)
  simpa using this
theorem cmpB_len (l : List BA) : (cmpB l).length = l.length := by
  have := cmp_le l
  unfold cmpB
  simp
  omega
def cmp (l : List BA) : List BA := (Lib.compact (dat l)).map mkB
theorem cmp_srt (l : List BA) : cmp (srtB l) = rise l := by
  unfold cmp rise srtB
  rw [dat_mkB]
theorem Compact_P {tk m e s : Nat} (ht : S.tok tk = some (m, e, s)) {l : List BA} (hl : l.length ≤ m) (hn : l.length ≤ 1000000) : TotP Tryz.prog w0 tk ((cmpB l).flatMap Rq) 55 [.one (.sl (some tk) l.length (l.flatMap Rq))] S
    (fun v => v = .one (.sl (some tk) (cmp l).length ((cmp l).flatMap Rq))) := by
  refine ⟨⟨Tryz.f55, by kernel_rfl, by kernel_rfl, by kernel_rfl⟩, fun A G w us hW hA => ?_⟩
  obtain ⟨us⟩ := us
  cases hA with
  | cons hv hr =>
    cases hr
    cases hv with
    | one r =>
      obtain ⟨b, cap, rfl, hh, hc, hb, hcell, hfz⟩ := strs_open hW ht r
      have h := Tryz.slices_Compact_string_cells b 0 l.length cap (fun i => l.getD i ⟨#[]⟩) w (by omega) hc hcell (fun j _ => hfz _)
      have e0 : Lib.strsOf (fun i => l.getD i ⟨#[]⟩) l.length = l.map (·.data.toList) := by
        apply List.ext_getElem
        · simp [Lib.strsOf]
        · intro i h1 h2
          have hi : i < l.length := by simpa using h2
          simp [Lib.strsOf, List.getD_eq_getElem?_getD, hi]
      rw [e0] at h
      refine h.mono ?_
      rintro e' w' ⟨rfl, q, rfl⟩
      have hle := cmp_le l
      have hr : RepC G ((cmpB l).flatMap Rq) ((Lib.compact (dat l) ++ List.replicate (l.length - (Lib.compact (dat l)).length) []).map encStr) := encs _
      have hp : clrs S.has tk ((cmpB l).flatMap Rq) = true := by rw [flatRq]; exact clrs_str _
      have hoff : 0 + ((cmpB l).flatMap Rq).length ≤ m := by rw [flatRq, List.length_map, cmpB_len]; omega
      obtain ⟨H, hle, hW', rep⟩ := (hW.drewN q).put ht hr hp hoff hh
      refine ⟨_, _, H, rfl, hle, .one ?_, hW', rep, rfl⟩
      have r2 := rep _ _ r
      rw [AL.put, if_pos rfl, if_pos (by rw [flatRq]; exact clrs_str _)] at r2
      cases r2 with
      | @sl _ _ _ _ _ _ f hc2 hp2 hx2 ht2 =>
        have hcl : (cmp l).length = (Lib.compact (dat l)).length := by unfold cmp; rw [List.length_map]
        have hlen : (spl (l.flatMap Rq) 0 ((cmpB l).flatMap Rq)).length = l.length := by rw [spl_len, flatRq, List.length_map]
        rw [← hcl]
        refine .sl f (by omega) (fun i hi => hp2 i ?_) (fun i x hx => hx2 i x ?_) ht2
        · rw [hlen]
          rw [flatRq, List.length_map] at hi
          omega
        · have hi : i < (cmp l).length := by
            have := (List.getElem?_eq_some_iff.1 hx).1
            rw [flatRq, List.length_map] at this
            exact this
          rw [spl_get _ _ _ _ (by rw [flatRq, List.length_map]; omega), if_pos (by rw [flatRq, List.length_map, cmpB_len]; omega), ← hx, flatRq, flatRq]
          unfold cmp cmpB
          rw [List.map_append, List.map_append, Nat.sub_zero, List.getElem?_append_left (by rw [List.length_map, List.length_map]; omega)]
end Go.Proofs.YtkdickfiifpblaaGreatDoor.D
namespace Go.Proofs.YtkdickfiifpblaaGreatDoor.D
open Go Go.Den Go.Proofs
set_option maxRecDepth 100000
variable {w0 : World} {S : St}
noncomputable abbrev TY : Tab := tabY Tryz.prog
theorem hTY : TY.Ok Tryz.prog := tabY_ok _
theorem Sort_nil : Tot Tryz.prog w0 54 [.one .nilsl] S (fun v S' => v = .tup [] ∧ S' = S) := by
  refine ⟨⟨Tryz.f54, by kernel_rfl, by kernel_rfl, by kernel_rfl⟩, fun A G w us hW hA => ?_⟩
  obtain ⟨us⟩ := us
  cases hA with
  | cons hv hr =>
    cases hr
    cases hv with
    | one r =>
      cases r
      refine (Tryz.slices_Sort_string_none none 0 w).mono ?_
      rintro e w' ⟨rfl, rfl⟩
      exact ⟨.tup [], S, _, G, rfl, Ghost.Le.refl G, .tup (xs := []) (fun _ => Go.undef) (fun i x hx => by simp at hx), hW, rfl, rfl⟩
theorem Compact_nil : Tot Tryz.prog w0 55 [.one .nilsl] S (fun v S' => v = .one .nilsl ∧ S' = S) := by
  refine ⟨⟨Tryz.f55, by kernel_rfl, by kernel_rfl, by kernel_rfl⟩, fun A G w us hW hA => ?_⟩
  obtain ⟨us⟩ := us
  cases hA with
  | cons hv hr =>
    cases hr
    cases hv with
    | one r =>
      cases r
      refine (Tryz.slices_Compact_string_empty none 0 w).mono ?_
      rintro e w' ⟨rfl, rfl⟩
      exact ⟨.one .nilsl, S, _, G, rfl, Ghost.Le.refl G, .one .nilsl, hW, rfl, rfl⟩
theorem rising_nil : TotY Tryz.prog w0 [] 26 [.one .nilsl] S fun v S' => v = .one .nilsl ∧ S' = S := by
  refine TotY.of_dwp hTY (fn := Tryz.f26) (c := Tryz.f26.body.get!) (by kernel_rfl) (by kernel_rfl) (by kernel_rfl) (Nat.le_of_ble_eq_true (by kernel_rfl)) (fun _ h => by cases h) ?_
  show dwp Tryz.prog w0 TY 7 S.boxes.length (codeOf Tryz.prog 26 []) (argRho [.one .nilsl]) { S with young := [] } _
  refine dOneY_val (v := .one .nilsl) rfl rfl ?_
  refine dOneY_val (v := .one .nilsl) rfl rfl ?_
  refine dOneY_call rfl rfl Sort_nil ?_
  rintro v S' ⟨rfl, rfl⟩
  refine dOneY_val (v := .one .nilsl) rfl rfl ?_
  refine dOneY_call rfl rfl Compact_nil ?_
  rintro v S' ⟨rfl, rfl⟩
  refine dOneY_val (v := .one .nilsl) rfl rfl ?_
  exact ⟨.one .nilsl, rfl, rfl, rfl⟩
theorem put_all {p : Nat → Bool} {tk n : Nat} {xs ys : List AL} (hx : clrs p tk xs = true) (hl : ys.length = xs.length) : (AL.sl (some tk) n xs).put p tk 0 ys = .sl (some tk) n ys := by
  rw [AL.put, if_pos rfl, if_pos hx]
  congr 1
  apply List.ext_getElem?
  intro i
  by_cases hi : i < xs.length
  · rw [spl_get _ _ _ _ hi, if_pos (by omega), Nat.sub_zero]
  · rw [List.getElem?_eq_none (by rw [spl_len]; omega), List.getElem?_eq_none (by omega)]
theorem rising_row {tk m e s : Nat} (ht : S.tok tk = some (m, e, s)) (hy : tk ∈ S.young) (hb : clrB S tk S.boxes) {l : List BA} (hl : l.length ≤ m) (hn : l.length ≤ 1000000) :
    TotY Tryz.prog w0 [tk] 26 [.one (.sl (some tk) l.length (l.flatMap Rq))] S fun v S' => v = .one (.sl (some tk) (rise l).length ((rise l).flatMap Rq)) ∧ S' = { S with young := [tk] ++ S.young } := by
  refine TotY.of_dwp hTY (fn := Tryz.f26) (c := Tryz.f26.body.get!) (by kernel_rfl) (by kernel_rfl) (by kernel_rfl) (Nat.le_of_ble_eq_true (by kernel_rfl)) (fun t h => by rw [List.mem_singleton.1 h]; exact ⟨hy, by rw [ht]; rfl⟩) ?_
  show dwp Tryz.prog w0 TY 7 S.boxes.length (codeOf Tryz.prog 26 []) (argRho [.one (.sl (some tk) l.length (l.flatMap Rq))]) { S with young := [tk] } _
  have hlen : ∀ l : List BA, (l.flatMap Rq).length = l.length := fun l => by rw [flatRq, List.length_map]
  have hcl : ∀ (p : Nat → Bool) (l : List BA), clrs p tk (l.flatMap Rq) = true := fun p l => by rw [flatRq]; exact clrs_str _
  refine dOneY_val (v := .one .nilsl) rfl rfl ?_
  refine dOneY_val (v := .one (.sl (some tk) l.length (l.flatMap Rq))) rfl rfl ?_
  refine dOneY_callP hTY rfl rfl rfl List.mem_cons_self (Sort_P (S := { S with young := [tk] }) ht hl hn) ?_
  rintro v rfl
  rw [St.put_clr (S := { S with young := [tk] }) hb]
  have e1 : (AL.sl (some tk) l.length (l.flatMap Rq)).put ({ S with young := [tk] } : St).has tk 0 ((srtB l).flatMap Rq) = .sl (some tk) (srtB l).length ((srtB l).flatMap Rq) := by
    rw [put_all (hcl _ _) (by rw [hlen, hlen, srtB_len]), srtB_len]
  refine dOneY_val (v := .one (.sl (some tk) (srtB l).length ((srtB l).flatMap Rq))) rfl (by rw [← e1]; rfl) ?_
  refine dOneY_callP hTY rfl rfl rfl List.mem_cons_self (Compact_P (S := { S with young := [tk] }) ht (l := srtB l) (by rw [srtB_len]; exact hl) (by rw [srtB_len]; exact hn)) ?_
  rintro v rfl
  rw [St.put_clr (S := { S with young := [tk] }) hb]
  refine dOneY_val (v := .one (.sl (some tk) (cmp (srtB l)).length ((cmp (srtB l)).flatMap Rq))) rfl rfl ?_
  rw [cmp_srt]
  exact ⟨_, rfl, rfl, rfl⟩
end Go.Proofs.YtkdickfiifpblaaGreatDoor.D
namespace Go.Proofs.YtkdickfiifpblaaGreatDoor.D
open Go Go.Den Go.Proofs
theorem v48 : ∀ (hk : Hk) (plans : Nat->Plan) (s0 s1 s2 : ByteArray) (c1 : Nat) (S : St) (Q : AV->St->Prop),wFn (Cf.of true) hk Tryz.prog (tabOf Tryz.prog) plans false 48 [.agg [.str s0,.str s1,.str s2],.ptr c1 0] S Q=(true=true/\∃ bx,S.boxes[c1]?=some bx/\(∃ x,likeCells [.str k_] [x]=true/\(List.drop 0 bx.snd)[0]?=some x)/\∀ (s : ByteArray),(List.drop 0 bx.snd)[0]?=some (.str
 s)->true=true/\Q (.one (.bool (decide (s2=s))))
 S)
 := by intros; kernel_rfl
theorem v47a : ∀ (hk : Hk) (plans : Nat->Plan) (x0 : AL) (c1 : Nat) (S : St) (Q : AV->St->Prop),wFn (Cf.of true) hk Tryz.prog (tabOf Tryz.prog) plans false 47 [.one x0,.clo 48 [.ptr c1 0]] S Q=(true=true/\∃ n,x0.len?=some n/\hk.2 19 (codeOf Tryz.prog 47 [1,0,1,0,0]) [.blk 0,.seq (codeOf Tryz.prog 47 [1,1])] (wEnd (tabOf Tryz.prog) Tryz.f47 false S.boxes.length Q) [(8,.v (.one
 (.i 0))),(7,.v (.one (.i (↑n : Int)))),(6,.v (.one x0)),(4,.v (.one (.i 0))),(0,.v (.one x0)),(1,.v (.clo 48 [.ptr c1 0]))] S
 [])
 := by intros; kernel_rfl
theorem b47a_0 : ∀ (hk : Hk) (plans : Nat->Plan) (x0 : AL) (c1 n : Nat) (n8 n4 : Int) (S : St) (K : QW),wCode (Cf.of true) hk Tryz.prog (tabOf Tryz.prog) 19 plans 1000 (codeOf Tryz.prog 47 [1,0,1,0,0]) [] (fun e env S L => K e (restr [8,7,4,0,1] env) S L) [(8,.v (.one (.i n8))),(7,.v (.one (.i (↑n : Int)))),(4,.v (.one (.i n4))),(0,.v (.one x0)),(1,.v (.clo 48 [.ptr c1 0]))] S
 []=((decide (n8 < (↑n : Int))=true->∃ tok n_1 xs,x0=.sl tok n_1 xs/\0<=n8/\n8 < (↑n_1 : Int)/\true=true/\(∃ xs_1,likeCells [.str k_,.str k_,.str k_] xs_1=true/\List.take 3 (List.drop (n8.toNat * 3) xs)=xs_1)/\∀ (s s_1 s_2 : ByteArray),List.take 3 (List.drop (n8.toNat * 3) xs)=[.str s,.str s_1,.str s_2]->∃ R,hk.1 48 [.agg [.str s,.str s_1,.str s_2],.ptr c1 0] S [] R/\∀ (b :
 Bool) (S1 : St),R (.one (.bool b)) S1->(b=true->K .ret [(8,.v (.one (.i n8))),(7,.v (.one (.i (↑n : Int)))),(4,.v (.one (.i n8))),(0,.v (.one x0)),(1,.v (.clo 48 [.ptr c1 0]))] S1 [])/\(b=false->in64 (n8 + 1)/\K .normal [(8,.v (.one (.i (n8 + 1)))),(7,.v (.one (.i (↑n : Int)))),(4,.v (.one (.i n4))),(0,.v (.one x0)),(1,.v (.clo 48 [.ptr c1 0]))] S1 []))/\(decide (n8 < (↑n :
 Int))=false->K (.exit 0) [(8,.v (.one (.i n8))),(7,.v (.one (.i (↑n : Int)))),(4,.v (.one (.i n4))),(0,.v (.one x0)),(1,.v (.clo 48 [.ptr c1 0]))] S
 []))
 := by intros; kernel_rfl
theorem x47a_0 : ∀ (hk : Hk) (plans : Nat->Plan) (x0 : AL) (c1 : Nat) (S : St) (Q : AV->St->Prop) (n : Nat) (n8 n4 : Int) (S_1 : St),wCode.wEx (Cf.of true) hk Tryz.prog (tabOf Tryz.prog) 19 plans 1000 (.exit 0) [.blk 0,.seq (codeOf Tryz.prog 47 [1,1])] (wEnd (tabOf Tryz.prog) Tryz.f47 false S.boxes.length Q) [(8,.v (.one (.i n8))),(7,.v (.one (.i (↑n : Int)))),(4,.v (.one (.i
 n4))),(0,.v (.one x0)),(1,.v (.clo 48 [.ptr c1 0]))] S_1 []=(true=true/\Q (.one (.i (-1)))
 S_1)
 := by intros; kernel_rfl
theorem v22 : ∀ (hk : Hk) (plans : Nat->Plan) (s0 : ByteArray) (S : St) (Q : AV->St->Prop),wFn (Cf.of true) hk Tryz.prog (tabOf Tryz.prog) plans false 22 [.one (.str s0)] S Q=(true=true/\true=true/\Q (.one (.bool (decide (s0=ByteArray.mk #[117,110,100,101,102])))) S)
 := by intros; kernel_rfl
theorem v52 : ∀ (hk : Hk) (plans : Nat->Plan) (s0 : ByteArray) (c1 : Nat) (S : St) (Q : AV->St->Prop),wFn (Cf.of true) hk Tryz.prog (tabOf Tryz.prog) plans false 52 [.one (.str s0),.ptr c1 0] S Q=(true=true/\∃ bx,S.boxes[c1]?=some bx/\(∃ x,true=true/\(List.drop 0 bx.snd)[0]?=some x)/\∀ (x : AL),(List.drop 0 bx.snd)[0]?=some x->∃ R,hk.1 19 [.one x,.one (.str s0)] S [] R/\∀ (b :
 Bool) (S1 : St),R (.one (.bool b)) S1->true=true/\Q (.one (.bool b))
 S1)
 := by intros; kernel_rfl
theorem v29 : ∀ (hk : Hk) (plans : Nat->Plan) (s0 s1 s2 : ByteArray) (c1 : Nat) (S : St) (Q : AV->St->Prop),wFn (Cf.of true) hk Tryz.prog (tabOf Tryz.prog) plans false 29 [.agg [.str s0,.str s1,.str s2],.ptr c1 0] S Q=(true=true/\∃ bx,S.boxes[c1]?=some bx/\(∃ x,true=true/\(List.drop 0 bx.snd)[0]?=some x)/\∀ (x : AL),(List.drop 0 bx.snd)[0]?=some x->∃ R,hk.1 19 [.one x,.one
 (.str s2)] S [(48,[.str s0,.str s1,.str s2])] R/\∀ (b : Bool) (S1 : St),R (.one (.bool b)) S1->true=true/\Q (.one (.bool b))
 S1)
 := by intros; kernel_rfl
theorem v50b : ∀ (hk : Hk) (plans : Nat->Plan) (x0 : AL) (S : St) (Q : AV->St->Prop),wFn (Cf.of true) hk Tryz.prog (tabOf Tryz.prog) plans false 50 [.one x0,.clo 22 []] S Q=(true=true/\∃ n,x0.len?=some n/\hk.2 19 (codeOf Tryz.prog 50 [1,0,1,0,0]) [.blk 0,.seq (codeOf Tryz.prog 50 [1,1])] (wEnd (tabOf Tryz.prog) Tryz.f50 false S.boxes.length Q) [(8,.v (.one (.i 0))),(7,.v (.one
 (.i (↑n : Int)))),(6,.v (.one x0)),(4,.v (.one (.i 0))),(0,.v (.one x0)),(1,.v (.clo 22 []))] S
 [])
 := by intros; kernel_rfl
theorem b50b_0 : ∀ (hk : Hk) (plans : Nat->Plan) (x0 : AL) (n : Nat) (n8 n4 : Int) (S : St) (K : QW),wCode (Cf.of true) hk Tryz.prog (tabOf Tryz.prog) 19 plans 1000 (codeOf Tryz.prog 50 [1,0,1,0,0]) [] (fun e env S L => K e (restr [8,7,4,0,1] env) S L) [(8,.v (.one (.i n8))),(7,.v (.one (.i (↑n : Int)))),(4,.v (.one (.i n4))),(0,.v (.one x0)),(1,.v (.clo 22 []))] S []=((decide
 (n8 < (↑n : Int))=true->∃ tok n_1 xs,x0=.sl tok n_1 xs/\0<=n8/\n8 < (↑n_1 : Int)/\(∃ x,likeCells [.str k_] [x]=true/\(List.drop (n8.toNat * 1) xs)[0]?=some x)/\∀ (s : ByteArray),(List.drop (n8.toNat * 1) xs)[0]?=some (.str s)->∃ R,hk.1 22 [.one (.str s)] S [] R/\∀ (b : Bool) (S1 : St),R (.one (.bool b)) S1->(b=true->K .ret [(8,.v (.one (.i n8))),(7,.v (.one (.i (↑n :
 Int)))),(4,.v (.one (.i n8))),(0,.v (.one x0)),(1,.v (.clo 22 []))] S1 [])/\(b=false->in64 (n8 + 1)/\K .normal [(8,.v (.one (.i (n8 + 1)))),(7,.v (.one (.i (↑n : Int)))),(4,.v (.one (.i n4))),(0,.v (.one x0)),(1,.v (.clo 22 []))] S1 []))/\(decide (n8 < (↑n : Int))=false->K (.exit 0) [(8,.v (.one (.i n8))),(7,.v (.one (.i (↑n : Int)))),(4,.v (.one (.i n4))),(0,.v (.one
 x0)),(1,.v (.clo 22 []))] S
 []))
 := by intros; kernel_rfl
theorem x50b_0 : ∀ (hk : Hk) (plans : Nat->Plan) (x0 : AL) (S : St) (Q : AV->St->Prop) (n : Nat) (n8 n4 : Int) (S_1 : St),wCode.wEx (Cf.of true) hk Tryz.prog (tabOf Tryz.prog) 19 plans 1000 (.exit 0) [.blk 0,.seq (codeOf Tryz.prog 50 [1,1])] (wEnd (tabOf Tryz.prog) Tryz.f50 false S.boxes.length Q) [(8,.v (.one (.i n8))),(7,.v (.one (.i (↑n : Int)))),(4,.v (.one (.i n4))),(0,.v
 (.one x0)),(1,.v (.clo 22 []))] S_1 []=(true=true/\Q (.one (.i (-1)))
 S_1)
 := by intros; kernel_rfl
theorem v50c : ∀ (hk : Hk) (plans : Nat->Plan) (x0 : AL) (c1 : Nat) (S : St) (Q : AV->St->Prop),wFn (Cf.of true) hk Tryz.prog (tabOf Tryz.prog) plans false 50 [.one x0,.clo 52 [.ptr c1 0]] S Q=(true=true/\∃ n,x0.len?=some n/\hk.2 19 (codeOf Tryz.prog 50 [1,0,1,0,0]) [.blk 0,.seq (codeOf Tryz.prog 50 [1,1])] (wEnd (tabOf Tryz.prog) Tryz.f50 false S.boxes.length Q) [(8,.v (.one
 (.i 0))),(7,.v (.one (.i (↑n : Int)))),(6,.v (.one x0)),(4,.v (.one (.i 0))),(0,.v (.one x0)),(1,.v (.clo 52 [.ptr c1 0]))] S
 [])
 := by intros; kernel_rfl
theorem b50c_0 : ∀ (hk : Hk) (plans : Nat->Plan) (x0 : AL) (c1 n : Nat) (n8 n4 : Int) (S : St) (K : QW),wCode (Cf.of true) hk Tryz.prog (tabOf Tryz.prog) 19 plans 1000 (codeOf Tryz.prog 50 [1,0,1,0,0]) [] (fun e env S L => K e (restr [8,7,4,0,1] env) S L) [(8,.v (.one (.i n8))),(7,.v (.one (.i (↑n : Int)))),(4,.v (.one (.i n4))),(0,.v (.one x0)),(1,.v (.clo 52 [.ptr c1 0]))] S
 []=((decide (n8 < (↑n : Int))=true->∃ tok n_1 xs,x0=.sl tok n_1 xs/\0<=n8/\n8 < (↑n_1 : Int)/\(∃ x,likeCells [.str k_] [x]=true/\(List.drop (n8.toNat * 1) xs)[0]?=some x)/\∀ (s : ByteArray),(List.drop (n8.toNat * 1) xs)[0]?=some (.str s)->∃ R,hk.1 52 [.one (.str s),.ptr c1 0] S [] R/\∀ (b : Bool) (S1 : St),R (.one (.bool b)) S1->(b=true->K .ret [(8,.v (.one (.i n8))),(7,.v
 (.one (.i (↑n : Int)))),(4,.v (.one (.i n8))),(0,.v (.one x0)),(1,.v (.clo 52 [.ptr c1 0]))] S1 [])/\(b=false->in64 (n8 + 1)/\K .normal [(8,.v (.one (.i (n8 + 1)))),(7,.v (.one (.i (↑n : Int)))),(4,.v (.one (.i n4))),(0,.v (.one x0)),(1,.v (.clo 52 [.ptr c1 0]))] S1 []))/\(decide (n8 < (↑n : Int))=false->K (.exit 0) [(8,.v (.one (.i n8))),(7,.v (.one (.i (↑n : Int)))),(4,.v
 (.one (.i n4))),(0,.v (.one x0)),(1,.v (.clo 52 [.ptr c1 0]))] S
 []))
 := by intros; kernel_rfl
theorem x50c_0 : ∀ (hk : Hk) (plans : Nat->Plan) (x0 : AL) (c1 : Nat) (S : St) (Q : AV->St->Prop) (n : Nat) (n8 n4 : Int) (S_1 : St),wCode.wEx (Cf.of true) hk Tryz.prog (tabOf Tryz.prog) 19 plans 1000 (.exit 0) [.blk 0,.seq (codeOf Tryz.prog 50 [1,1])] (wEnd (tabOf Tryz.prog) Tryz.f50 false S.boxes.length Q) [(8,.v (.one (.i n8))),(7,.v (.one (.i (↑n : Int)))),(4,.v (.one (.i
 n4))),(0,.v (.one x0)),(1,.v (.clo 52 [.ptr c1 0]))] S_1 []=(true=true/\Q (.one (.i (-1)))
 S_1)
 := by intros; kernel_rfl
theorem v47d : ∀ (hk : Hk) (plans : Nat->Plan) (x0 : AL) (c1 : Nat) (S : St) (Q : AV->St->Prop),wFn (Cf.of true) hk Tryz.prog (tabOf Tryz.prog) plans false 47 [.one x0,.clo 29 [.ptr c1 0]] S Q=(true=true/\∃ n,x0.len?=some n/\hk.2 19 (codeOf Tryz.prog 47 [1,0,1,0,0]) [.blk 0,.seq (codeOf Tryz.prog 47 [1,1])] (wEnd (tabOf Tryz.prog) Tryz.f47 false S.boxes.length Q) [(8,.v (.one
 (.i 0))),(7,.v (.one (.i (↑n : Int)))),(6,.v (.one x0)),(4,.v (.one (.i 0))),(0,.v (.one x0)),(1,.v (.clo 29 [.ptr c1 0]))] S
 [])
 := by intros; kernel_rfl
theorem b47d_0 : ∀ (hk : Hk) (plans : Nat->Plan) (x0 : AL) (c1 n : Nat) (n8 n4 : Int) (S : St) (K : QW),wCode (Cf.of true) hk Tryz.prog (tabOf Tryz.prog) 19 plans 1000 (codeOf Tryz.prog 47 [1,0,1,0,0]) [] (fun e env S L => K e (restr [8,7,4,0,1] env) S L) [(8,.v (.one (.i n8))),(7,.v (.one (.i (↑n : Int)))),(4,.v (.one (.i n4))),(0,.v (.one x0)),(1,.v (.clo 29 [.ptr c1 0]))] S
 []=((decide (n8 < (↑n : Int))=true->∃ tok n_1 xs,x0=.sl tok n_1 xs/\0<=n8/\n8 < (↑n_1 : Int)/\true=true/\(∃ xs_1,likeCells [.str k_,.str k_,.str k_] xs_1=true/\List.take 3 (List.drop (n8.toNat * 3) xs)=xs_1)/\∀ (s s_1 s_2 : ByteArray),List.take 3 (List.drop (n8.toNat * 3) xs)=[.str s,.str s_1,.str s_2]->∃ R,hk.1 29 [.agg [.str s,.str s_1,.str s_2],.ptr c1 0] S [] R/\∀ (b :
 Bool) (S1 : St),R (.one (.bool b)) S1->(b=true->K .ret [(8,.v (.one (.i n8))),(7,.v (.one (.i (↑n : Int)))),(4,.v (.one (.i n8))),(0,.v (.one x0)),(1,.v (.clo 29 [.ptr c1 0]))] S1 [])/\(b=false->in64 (n8 + 1)/\K .normal [(8,.v (.one (.i (n8 + 1)))),(7,.v (.one (.i (↑n : Int)))),(4,.v (.one (.i n4))),(0,.v (.one x0)),(1,.v (.clo 29 [.ptr c1 0]))] S1 []))/\(decide (n8 < (↑n :
 Int))=false->K (.exit 0) [(8,.v (.one (.i n8))),(7,.v (.one (.i (↑n : Int)))),(4,.v (.one (.i n4))),(0,.v (.one x0)),(1,.v (.clo 29 [.ptr c1 0]))] S
 []))
 := by intros; kernel_rfl
theorem x47d_0 : ∀ (hk : Hk) (plans : Nat->Plan) (x0 : AL) (c1 : Nat) (S : St) (Q : AV->St->Prop) (n : Nat) (n8 n4 : Int) (S_1 : St),wCode.wEx (Cf.of true) hk Tryz.prog (tabOf Tryz.prog) 19 plans 1000 (.exit 0) [.blk 0,.seq (codeOf Tryz.prog 47 [1,1])] (wEnd (tabOf Tryz.prog) Tryz.f47 false S.boxes.length Q) [(8,.v (.one (.i n8))),(7,.v (.one (.i (↑n : Int)))),(4,.v (.one (.i
 n4))),(0,.v (.one x0)),(1,.v (.clo 29 [.ptr c1 0]))] S_1 []=(true=true/\Q (.one (.i (-1)))
 S_1)
 := by intros; kernel_rfl
theorem v18 : ∀ (hk : Hk) (plans : Nat->Plan) (x0_0 x0_1 x0_2 x0_3 x0_4 : AL) (s1 : ByteArray) (S : St) (Q : AV->St->Prop),wFn (Cf.of true) hk Tryz.prog (tabOf Tryz.prog) plans false 18 [.agg [x0_0,x0_1,x0_2,x0_3,x0_4],.one (.str s1)] S Q=(true=true/\∃ R,hk.1 47 [.one x0_1,.clo 48 [.ptr (S.boxes.length + 1) 0]] S [(30,[x0_0,x0_1,x0_2,x0_3,x0_4]),(9,[.str s1]),(48,[.str k_,.str
 k_,.str k_])] R/\∀ (n : Int) (S1 : St),R (.one (.i n)) S1->(decide (n < 0)=true->true=true/\Q (.tup [.agg [.str k_,.str k_,.str k_],.one (.bool false)]) S1)/\(decide (n < 0)=false->∃ tok n_1 xs,x0_1=.sl tok n_1 xs/\0<=n/\n < (↑n_1 : Int)/\true=true/\(∃ xs_1,likeCells [.str k_,.str k_,.str k_] xs_1=true/\List.take 3 (List.drop (n.toNat * 3) xs)=xs_1)/\∀ (s s_1 s_2 :
 ByteArray),List.take 3 (List.drop (n.toNat * 3) xs)=[.str s,.str s_1,.str s_2]->true=true/\Q (.tup [.agg [.str s,.str s_1,.str s_2],.one (.bool true)])
 S1))
 := by intros; kernel_rfl
theorem v43 : ∀ (hk : Hk) (plans : Nat->Plan) (x0 : AL) (S : St) (Q : AV->St->Prop),wFn (Cf.of true) hk Tryz.prog (tabOf Tryz.prog) plans false 43 [.one x0] S Q=(true=true/\∃ n,x0.len?=some n/\hk.2 36 (codeOf Tryz.prog 43 [1,1,0,1,0,0]) [.blk 0,.seq (codeOf Tryz.prog 43 [1,1,1])] (wEnd (tabOf Tryz.prog) Tryz.f43 false S.boxes.length Q) [(11,.v (.one (.i 0))),(10,.v (.one (.i
 (↑n : Int)))),(9,.v (.one x0)),(3,.v (.one (.i 0))),(2,.v (.one .nilsl)),(0,.v (.one x0))] S
 [])
 := by intros; kernel_rfl
theorem b43_0 : ∀ (hk : Hk) (plans : Nat->Plan) (x0 : AL) (n : Nat) (n11 n3 : Int) (S : St) (K : QW),wCode (Cf.of true) hk Tryz.prog (tabOf Tryz.prog) 36 plans 1000 (codeOf Tryz.prog 43 [1,1,0,1,0,0]) [] (fun e env S L => K e (restr [11,10,9,3,2,0] env) S L) [(11,.v (.one (.i n11))),(10,.v (.one (.i (↑n : Int)))),(9,.v (.one x0)),(3,.v (.one (.i n3))),(2,.v (.one .nilsl)),(0,.v
 (.one x0))] S []=((decide (n11 < (↑n : Int))=true->∃ tok n_1 xs,x0=.sl tok n_1 xs/\0<=n11/\n11 < (↑n_1 : Int)/\(∃ x,true=true/\(List.drop (n11.toNat * 1) xs)[0]?=some x)/\∀ (x : AL),(List.drop (n11.toNat * 1) xs)[0]?=some x->∃ n_2,x.len?=some n_2/\in64 (n3 + (↑n_2 : Int))/\(decide (n3 + (↑n_2 : Int) < 0)=true->False)/\(decide (n3 + (↑n_2 : Int) < 0)=false->in64 (n11 + 1)/\K
 .normal [(11,.v (.one (.i (n11 + 1)))),(10,.v (.one (.i (↑n : Int)))),(9,.v (.one x0)),(3,.v (.one (.i (n3 + (↑n_2 : Int))))),(2,.v (.one .nilsl)),(0,.v (.one x0))] S []))/\(decide (n11 < (↑n : Int))=false->K (.exit 0) [(11,.v (.one (.i n11))),(10,.v (.one (.i (↑n : Int)))),(9,.v (.one x0)),(3,.v (.one (.i n3))),(2,.v (.one .nilsl)),(0,.v (.one x0))] S
 []))
 := by intros; kernel_rfl
theorem x43_0 : ∀ (hk : Hk) (plans : Nat->Plan) (x0 : AL) (S : St) (Q : AV->St->Prop) (n : Nat) (n11 n3 : Int) (S_1 : St),wCode.wEx (Cf.of true) hk Tryz.prog (tabOf Tryz.prog) 36 plans 1000 (.exit 0) [.blk 0,.seq (codeOf Tryz.prog 43 [1,1,1])] (wEnd (tabOf Tryz.prog) Tryz.f43 false S.boxes.length Q) [(11,.v (.one (.i n11))),(10,.v (.one (.i (↑n : Int)))),(9,.v (.one x0)),(3,.v
 (.one (.i n3))),(2,.v (.one .nilsl)),(0,.v (.one x0))] S_1 []=∃ R,hk.1 69 [.one .nilsl,.one (.i n3)] S_1 [] R/\∀ (x : AL) (S1 : St),R (.one x) S1->∃ n_1,x0.len?=some n_1/\hk.2 36 (codeOf Tryz.prog 43 [1,1,1,1,0,1,0,0]) [.blk 2,.seq (codeOf Tryz.prog 43 [1,1,1,1,1])] (wEnd (tabOf Tryz.prog) Tryz.f43 false S.boxes.length Q) [(27,.v (.one (.i 0))),(26,.v (.one (.i (↑n_1 :
 Int)))),(25,.v (.one x0)),(6,.v (.one x)),(24,.v (.one x)),(23,.v (.one (.i n3))),(11,.v (.one (.i n11))),(10,.v (.one (.i (↑n : Int)))),(9,.v (.one x0)),(3,.v (.one (.i n3))),(2,.v (.one .nilsl)),(0,.v (.one x0))] S1
 []
 := by intros; kernel_rfl
theorem b43_1 : ∀ (hk : Hk) (plans : Nat->Plan) (x0 : AL) (n : Nat) (n27 : Int) (x6 : AL) (S : St) (K : QW),wCode (Cf.of true) hk Tryz.prog (tabOf Tryz.prog) 36 plans 1000 (codeOf Tryz.prog 43 [1,1,1,1,0,1,0,0]) [] (fun e env S L => K e (restr [27,26,25,6,2] env) S L) [(27,.v (.one (.i n27))),(26,.v (.one (.i (↑n : Int)))),(25,.v (.one x0)),(6,.v (.one x6)),(2,.v (.one
 .nilsl))] S []=((decide (n27 < (↑n : Int))=true->∃ tok n_1 xs,x0=.sl tok n_1 xs/\0<=n27/\n27 < (↑n_1 : Int)/\(∃ x,true=true/\(List.drop (n27.toNat * 1) xs)[0]?=some x)/\∀ (x : AL),(List.drop (n27.toNat * 1) xs)[0]?=some x->24=24/\∃ r S',dAppend2 (tabOf Tryz.prog) 24 x6 x S=some (r,S')/\in64 (n27 + 1)/\K .normal [(27,.v (.one (.i (n27 + 1)))),(26,.v (.one (.i (↑n :
 Int)))),(25,.v (.one x0)),(6,.v (.one r)),(2,.v (.one .nilsl))] S' [])/\(decide (n27 < (↑n : Int))=false->K (.exit 2) [(27,.v (.one (.i n27))),(26,.v (.one (.i (↑n : Int)))),(25,.v (.one x0)),(6,.v (.one x6)),(2,.v (.one .nilsl))] S
 []))
 := by intros; kernel_rfl
theorem x43_1 : ∀ (hk : Hk) (plans : Nat->Plan) (x0 : AL) (S : St) (Q : AV->St->Prop) (n : Nat) (n27 : Int) (x6 : AL) (S_1 : St),wCode.wEx (Cf.of true) hk Tryz.prog (tabOf Tryz.prog) 36 plans 1000 (.exit 2) [.blk 2,.seq (codeOf Tryz.prog 43 [1,1,1,1,1])] (wEnd (tabOf Tryz.prog) Tryz.f43 false S.boxes.length Q) [(27,.v (.one (.i n27))),(26,.v (.one (.i (↑n : Int)))),(25,.v (.one
 x0)),(6,.v (.one x6)),(2,.v (.one .nilsl))] S_1 []=(true=true/\Q (.one x6)
 S_1)
 := by intros; kernel_rfl
theorem v23 : ∀ (hk : Hk) (plans : Nat->Plan) (x0 : AL) (S : St) (Q : AV->St->Prop),wFn (Cf.of true) hk Tryz.prog (tabOf Tryz.prog) plans false 23 [.one x0] S Q=(true=true/\∃ n,x0.len?=some n/\hk.2 36 (codeOf Tryz.prog 23 [1,1,0,1,0,0]) [.blk 0,.seq (codeOf Tryz.prog 23 [1,1,1])] (wEnd (tabOf Tryz.prog) Tryz.f23 false S.boxes.length Q) [(11,.v (.one (.i 0))),(10,.v (.one (.i
 (↑n : Int)))),(9,.v (.one x0)),(3,.v (.one (.i 0))),(2,.v (.one .nilsl)),(0,.v (.one x0))] S
 [])
 := by intros; kernel_rfl
theorem b23_0 : ∀ (hk : Hk) (plans : Nat->Plan) (x0 : AL) (n : Nat) (n11 n3 : Int) (S : St) (K : QW),wCode (Cf.of true) hk Tryz.prog (tabOf Tryz.prog) 36 plans 1000 (codeOf Tryz.prog 23 [1,1,0,1,0,0]) [] (fun e env S L => K e (restr [11,10,9,3,2,0] env) S L) [(11,.v (.one (.i n11))),(10,.v (.one (.i (↑n : Int)))),(9,.v (.one x0)),(3,.v (.one (.i n3))),(2,.v (.one .nilsl)),(0,.v
 (.one x0))] S []=((decide (n11 < (↑n : Int))=true->∃ tok n_1 xs,x0=.sl tok n_1 xs/\0<=n11/\n11 < (↑n_1 : Int)/\(∃ x,true=true/\(List.drop (n11.toNat * 1) xs)[0]?=some x)/\∀ (x : AL),(List.drop (n11.toNat * 1) xs)[0]?=some x->∃ n_2,x.len?=some n_2/\in64 (n3 + (↑n_2 : Int))/\(decide (n3 + (↑n_2 : Int) < 0)=true->False)/\(decide (n3 + (↑n_2 : Int) < 0)=false->in64 (n11 + 1)/\K
 .normal [(11,.v (.one (.i (n11 + 1)))),(10,.v (.one (.i (↑n : Int)))),(9,.v (.one x0)),(3,.v (.one (.i (n3 + (↑n_2 : Int))))),(2,.v (.one .nilsl)),(0,.v (.one x0))] S []))/\(decide (n11 < (↑n : Int))=false->K (.exit 0) [(11,.v (.one (.i n11))),(10,.v (.one (.i (↑n : Int)))),(9,.v (.one x0)),(3,.v (.one (.i n3))),(2,.v (.one .nilsl)),(0,.v (.one x0))] S
 []))
 := by intros; kernel_rfl
theorem x23_0 : ∀ (hk : Hk) (plans : Nat->Plan) (x0 : AL) (S : St) (Q : AV->St->Prop) (n : Nat) (n11 n3 : Int) (S_1 : St),wCode.wEx (Cf.of true) hk Tryz.prog (tabOf Tryz.prog) 36 plans 1000 (.exit 0) [.blk 0,.seq (codeOf Tryz.prog 23 [1,1,1])] (wEnd (tabOf Tryz.prog) Tryz.f23 false S.boxes.length Q) [(11,.v (.one (.i n11))),(10,.v (.one (.i (↑n : Int)))),(9,.v (.one x0)),(3,.v
 (.one (.i n3))),(2,.v (.one .nilsl)),(0,.v (.one x0))] S_1 []=∃ R,hk.1 53 [.one .nilsl,.one (.i n3)] S_1 [] R/\∀ (x : AL) (S1 : St),R (.one x) S1->∃ n_1,x0.len?=some n_1/\hk.2 36 (codeOf Tryz.prog 23 [1,1,1,1,0,1,0,0]) [.blk 2,.seq (codeOf Tryz.prog 23 [1,1,1,1,1])] (wEnd (tabOf Tryz.prog) Tryz.f23 false S.boxes.length Q) [(27,.v (.one (.i 0))),(26,.v (.one (.i (↑n_1 :
 Int)))),(25,.v (.one x0)),(6,.v (.one x)),(24,.v (.one x)),(23,.v (.one (.i n3))),(11,.v (.one (.i n11))),(10,.v (.one (.i (↑n : Int)))),(9,.v (.one x0)),(3,.v (.one (.i n3))),(2,.v (.one .nilsl)),(0,.v (.one x0))] S1
 []
 := by intros; kernel_rfl
theorem b23_1 : ∀ (hk : Hk) (plans : Nat->Plan) (x0 : AL) (n : Nat) (n27 : Int) (x6 : AL) (S : St) (K : QW),wCode (Cf.of true) hk Tryz.prog (tabOf Tryz.prog) 36 plans 1000 (codeOf Tryz.prog 23 [1,1,1,1,0,1,0,0]) [] (fun e env S L => K e (restr [27,26,25,6,2] env) S L) [(27,.v (.one (.i n27))),(26,.v (.one (.i (↑n : Int)))),(25,.v (.one x0)),(6,.v (.one x6)),(2,.v (.one
 .nilsl))] S []=((decide (n27 < (↑n : Int))=true->∃ tok n_1 xs,x0=.sl tok n_1 xs/\0<=n27/\n27 < (↑n_1 : Int)/\(∃ x,true=true/\(List.drop (n27.toNat * 1) xs)[0]?=some x)/\∀ (x : AL),(List.drop (n27.toNat * 1) xs)[0]?=some x->32=32/\∃ r S',dAppend2 (tabOf Tryz.prog) 32 x6 x S=some (r,S')/\in64 (n27 + 1)/\K .normal [(27,.v (.one (.i (n27 + 1)))),(26,.v (.one (.i (↑n :
 Int)))),(25,.v (.one x0)),(6,.v (.one r)),(2,.v (.one .nilsl))] S' [])/\(decide (n27 < (↑n : Int))=false->K (.exit 2) [(27,.v (.one (.i n27))),(26,.v (.one (.i (↑n : Int)))),(25,.v (.one x0)),(6,.v (.one x6)),(2,.v (.one .nilsl))] S
 []))
 := by intros; kernel_rfl
theorem x23_1 : ∀ (hk : Hk) (plans : Nat->Plan) (x0 : AL) (S : St) (Q : AV->St->Prop) (n : Nat) (n27 : Int) (x6 : AL) (S_1 : St),wCode.wEx (Cf.of true) hk Tryz.prog (tabOf Tryz.prog) 36 plans 1000 (.exit 2) [.blk 2,.seq (codeOf Tryz.prog 23 [1,1,1,1,1])] (wEnd (tabOf Tryz.prog) Tryz.f23 false S.boxes.length Q) [(27,.v (.one (.i n27))),(26,.v (.one (.i (↑n : Int)))),(25,.v (.one
 x0)),(6,.v (.one x6)),(2,.v (.one .nilsl))] S_1 []=(true=true/\Q (.one x6)
 S_1)
 := by intros; kernel_rfl
end Go.Proofs.YtkdickfiifpblaaGreatDoor.D
namespace Go.Den
open Go.RowKit
section
variable {P : Program} {w0 : World} {T : Tab} {n : Nat} {A : Nat → Prop} {S : St} {G : Ghost} {w : World}
theorem WR.oldAs {S' : St} {H : Ghost} {w' : World} (h : WR w0 A S G w) (h' : WR w0 A S' H w') (hh : ∀ t x, G.hdr t = some x → H.hdr t = some x) : WR w0 A { S' with old := S.old } H w' := by
  have hl : S.toks.length ≤ S'.toks.length := by
    apply Nat.le_of_not_lt
    intro hlt
    obtain ⟨x, hx⟩ := h.hall (S.toks.length - 1) (by omega)
    have := hh _ _ hx
    rw [h'.later _ (by omega)] at this
    cases this
  exact ⟨h'.prot, h'.tok, h'.later, h'.hlt, h'.box, h'.more, h'.boxes, h'.rows, h'.apart, h'.size, h'.below, h'.own, h'.up, h'.ylt, h'.hall, h'.basep, Nat.le_trans h.oldt.1 hl, fun t b c ht hb => by
    obtain ⟨x, hx⟩ := h.hall t (Nat.lt_of_lt_of_le ht h.oldt.1)
    have := hh t x hx
    rw [show H.hdr t = some (b, c) from hb] at this
    cases this
    exact h.oldt.2 t b c ht hx⟩
theorem Tot.old {f : FuncId} {args : List AV} {Q : AV → St → Prop} (h : Tot P w0 f args S Q) : Tot P w0 f args S fun v S'' => ∃ S', S'' = { S' with old := S.old } ∧ Q v S' :=
  ⟨h.1, fun A G w vs hW hA => (h.2 A G w vs hW hA).mono fun _ _ ⟨v, S', vr, H, h1, h2, h3, h4, h5⟩ => ⟨v, _, vr, H, h1, h2, h3, hW.oldAs h4 h2.hdr, S', rfl, h5⟩⟩
theorem TotY.old {Y : List Nat} {f : FuncId} {args : List AV} {Q : AV → St → Prop} (h : TotY P w0 Y f args S Q) : TotY P w0 Y f args S fun v S'' => ∃ S', S'' = { S' with old := S.old } ∧ Q v S' :=
  ⟨h.1, fun A G w vs hW hA => (h.2 A G w vs hW hA).mono fun _ _ ⟨v, S', vr, H, h1, h2, h3, h4, h5⟩ => ⟨v, _, vr, H, h1, h2, h3, hW.oldAs h4 h2.hdr, S', rfl, h5⟩⟩
structure ExtO (S S' : St) : Prop where
  ext : Ext S S'
  old : S'.old = S.old
theorem ExtO.refl (S : St) : ExtO S S := ⟨Ext.refl S, rfl⟩
theorem ExtO.trans {S S' S'' : St} (h : ExtO S S') (k : ExtO S' S'') : ExtO S S'' := ⟨h.1.trans k.1, k.2.trans h.2⟩
theorem ExtO.born (S : St) (x : Nat × TypeId × Nat) : ExtO S (S.born x) := ⟨Ext.born S x, rfl⟩
theorem likeVs_desc {T T' : Tab} (hd : T'.desc = T.desc) : ∀ (ts : List TypeId) (vs : List AV), likeVs T' ts vs = likeVs T ts vs
  | [], vs => by cases vs <;> rfl
  | t :: ts, [] => rfl
  | t :: ts, v :: vs => by
    show (likeV T' t v && likeVs T' ts vs) = (likeV T t v && likeVs T ts vs)
    rw [likeVs_desc hd ts vs]
    unfold likeV
    rw [hd]
theorem ConR.useO {T' : Tab} (hd : T'.desc = T.desc) {f : FuncId} {args : List AV} {r : Nat → AV → St → Prop} (h : ConR P T f args r) (S : St) (L : Lo) : (realHk P w0 T').tot f args S L fun v S' => ExtO S S' ∧ r S.toks.length v S' := by
  refine ⟨(h.tot w0 (join S L)).old.mono fun v S'' ⟨S', e, hE, hr⟩ => ⟨{ S'' with boxes := S.boxes }, ?_, rfl, ⟨⟨rfl, ?_, ?_, ?_⟩, ?_⟩, ?_⟩, fun v S1 hv => ?_⟩
  · subst e
    show _ = ({ boxes := S.boxes ++ L, toks := _, young := _, old := _ } : St)
    rw [show S.boxes ++ L = S'.boxes from hE.1.symm]
  · subst e; exact hE.2.1
  · subst e; exact hE.2.2
  · subst e; exact hE.2.yng
  · subst e; rfl
  · subst e; exact h.loc _ v S' _ (TokSub.same ⟨rfl, rfl⟩) hr
  · obtain ⟨fn, vs, h1, h2, h3⟩ := h.sh _ v S1 hv.2
    exact ⟨fn, vs, h1, h2, by rw [likeVs_desc hd]; exact h3⟩
theorem Con.useO {T' : Tab} (hd : T'.desc = T.desc) {f : FuncId} {args : List AV} {r : AV → Prop} (h : Con P w0 T f args r) (S : St) (L : Lo) : (realHk P w0 T').tot f args S L fun v S' => ExtO S S' ∧ r v := by
  refine ⟨(h.tot (join S L)).old.mono fun v S'' ⟨S', e, hE, hr⟩ => ⟨{ S'' with boxes := S.boxes }, ?_, rfl, ⟨⟨rfl, ?_, ?_, ?_⟩, ?_⟩, hr⟩, fun v S1 hv => ?_⟩
  · subst e
    show _ = ({ boxes := S.boxes ++ L, toks := _, young := _, old := _ } : St)
    rw [show S.boxes ++ L = S'.boxes from hE.1.symm]
  · subst e; exact hE.2.1
  · subst e; exact hE.2.2
  · subst e; exact hE.2.yng
  · subst e; rfl
  · obtain ⟨fn, vs, h1, h2, h3⟩ := h.sh v hv.2
    exact ⟨fn, vs, h1, h2, by rw [likeVs_desc hd]; exact h3⟩
theorem toty_use {Y : List Nat} {f : FuncId} {args : List AV} {S : St} {L : Lo} {r : AV → St → Prop} (hY : ∀ t, t ∈ Y → t ∈ S.young ∧ (S.tok t).isSome = true) (h : TotY P w0 Y f args (join S L) fun v S' => Ext (join S L) S' ∧ r v S')
    (loc : ∀ v S S', Same S S' → r v S → r v S') (sh : ∀ v S, r v S → ∃ fn vs, P.funcs[f]? = some fn ∧ v = tupOf vs ∧ likeVs T fn.resultTypes.toList vs = true) :
    (realHk P w0 T).toty Y f args [] S L fun v S1 => ExtO S S1 ∧ r v S1 := by
  refine ⟨hY, h.old.mono fun v S'' ⟨S', e, hE, hr⟩ => ⟨{ S'' with boxes := S.boxes }, ?_, rfl, ⟨⟨rfl, ?_, ?_, ?_⟩, ?_⟩, ?_⟩, fun v S1 hv => sh v S1 hv.2⟩
  · subst e
    show _ = ({ boxes := S.boxes ++ L, toks := _, young := _, old := _ } : St)
    rw [show S.boxes ++ L = S'.boxes from hE.1.symm]
  · subst e; exact hE.2.1
  · subst e; exact hE.2.2
  · subst e; exact hE.2.yng
  · subst e; rfl
  · subst e; exact loc v S' _ ⟨rfl, rfl⟩ hr
theorem dAppend_old {t : TypeId} {x y r : AL} {S S' : St} (h : dAppend T t x y S = some (r, S')) : S'.old = S.old := by
  unfold dAppend at h
  obtain ⟨d, _, h⟩ := Option.bind_eq_some_iff.1 h
  obtain ⟨e, _, h⟩ := Option.bind_eq_some_iff.1 h
  obtain ⟨de, _, h⟩ := Option.bind_eq_some_iff.1 h
  obtain ⟨mys, _, h⟩ := Option.bind_eq_some_iff.1 h
  split at h
  · cases h
  split at h
  · split at h
    · cases h; rfl
    · cases h
  · split at h
    · cases h; rfl
    · cases h
  · cases h
theorem dAppend2_old {t : TypeId} {x y r : AL} {S S' : St} (h : dAppend2 T t x y S = some (r, S')) : S'.old = S.old := by
  have key : (T.desc t).bind (fun d => d.elem.bind fun e => (T.desc e).bind fun _ => match x with | .nilsl => some (x, S) | .sl .. => some (x, S) | _ => none) = some (r, S') → S'.old = S.old := by
    intro h
    obtain ⟨d, _, h⟩ := Option.bind_eq_some_iff.1 h
    obtain ⟨e, _, h⟩ := Option.bind_eq_some_iff.1 h
    obtain ⟨de, _, h⟩ := Option.bind_eq_some_iff.1 h
    split at h
    · cases h; rfl
    · cases h; rfl
    · cases h
  unfold dAppend2 at h
  split at h
  · exact key h
  · exact key h
  · exact dAppend_old h
structure ConB (P : Program) (T : Tab) (f : FuncId) (args : List AV) (i : Nat) (cs : List AL) (r : AV → Prop) : Prop where
  tot : ∀ w0 S t, S.boxes[i]? = some (t, cs) → Tot P w0 f args S fun v S' => Ext S S' ∧ r v
  sh : ∀ v, r v → ∃ fn vs, P.funcs[f]? = some fn ∧ v = tupOf vs ∧ likeVs T fn.resultTypes.toList vs = true
theorem ConB.useO {T' : Tab} (hd : T'.desc = T.desc) {f : FuncId} {args : List AV} {i : Nat} {cs : List AL} {r : AV → Prop} (h : ConB P T f args i cs r) (S : St) (L : Lo) {t : TypeId} (hb : (S.boxes ++ L)[i]? = some (t, cs)) :
    (realHk P w0 T').tot f args S L fun v S' => ExtO S S' ∧ r v := by
  refine ⟨(h.tot w0 (join S L) t hb).old.mono fun v S'' ⟨S', e, hE, hr⟩ => ⟨{ S'' with boxes := S.boxes }, ?_, rfl, ⟨⟨rfl, ?_, ?_, ?_⟩, ?_⟩, hr⟩, fun v S1 hv => ?_⟩
  · subst e
    show _ = ({ boxes := S.boxes ++ L, toks := _, young := _, old := _ } : St)
    rw [show S.boxes ++ L = S'.boxes from hE.1.symm]
  · subst e; exact hE.2.1
  · subst e; exact hE.2.2
  · subst e; exact hE.2.yng
  · subst e; rfl
  · obtain ⟨fn, vs, h1, h2, h3⟩ := h.sh v hv.2
    exact ⟨fn, vs, h1, h2, by rw [likeVs_desc hd]; exact h3⟩
theorem ConB.of_fn (hT : T.Ok P) (hmo : P.follows .mixedOrders = true) {nov : Cf} {plans : Nat → Plan} {f : FuncId} {args : List AV} {i : Nat} {cs : List AL} {r : AV → Prop}
    (sh : ∀ v, r v → ∃ fn vs, P.funcs[f]? = some fn ∧ v = tupOf vs ∧ likeVs T fn.resultTypes.toList vs = true)
    (h : ∀ w0 S t, S.boxes[i]? = some (t, cs) → wFn nov (realHk P w0 T) P T plans false f args S fun v S' => Ext S S' ∧ r v) (ho : T.own = false := by rfl) : ConB P T f args i cs r :=
  ⟨fun w0 S t hb => Tot.of_wFnK hT ho hmo (h w0 S t hb), sh⟩
def DeadR (B B' : List (TypeId × List AL)) : Prop := B'.length = B.length ∧ ∀ (i : Nat) (t : TypeId) (cs' : List AL), B'[i]? = some (t, cs') → ∃ cs, B[i]? = some (t, cs) ∧ cs.length = cs'.length ∧ ∀ (j : Nat) x', cs'[j]? = some x' → x' = .undef ∨ cs[j]? = some x'
theorem WR.dead (h : WR w0 A S G w) {B' : List (TypeId × List AL)} (hB : DeadR S.boxes B') : WR w0 A { S with boxes := B' } G w := by
  refine ⟨h.prot, h.tok, h.later, h.hlt, fun i t cs' hi => ?_, fun i hi => h.more i (by rw [← hB.1]; exact hi), h.boxes, h.rows, h.apart, h.size, h.below, h.own, h.up, h.ylt, h.hall, h.basep, h.oldt⟩
  obtain ⟨cs, h1, h2, h3⟩ := hB.2 i t cs' hi
  obtain ⟨b, vs, g1, g2, g3, g4, g5⟩ := h.box i t cs h1
  refine ⟨b, vs, g1, g2, g3, ⟨by rw [← h2]; exact g4.1, fun j x v hx hv => ?_⟩, g5⟩
  rcases h3 j x hx with rfl | hx
  · have hj := (List.getElem?_eq_some_iff.1 hx).1
    exact .undef v (g4.2 j _ v (List.getElem?_eq_getElem (by omega)) hv).oneCell
  · exact g4.2 j x v hx hv
theorem TotY.dead {Y : List Nat} {f : FuncId} {args : List AV} {B' : List (TypeId × List AL)} {Q : AV → St → Prop} (hB : DeadR S.boxes B') (h : TotY P w0 Y f args { S with boxes := B' } Q) : TotY P w0 Y f args S Q :=
  ⟨h.1, fun A G w vs hW hA => h.2 A G w vs (hW.dead hB) hA⟩
theorem toty_useD {Y : List Nat} {f : FuncId} {args : List AV} {S : St} {L : Lo} {dead : List (Nat × Nat)} {r : AV → St → Prop} (hY : ∀ t, t ∈ Y → t ∈ S.young ∧ (S.tok t).isSome = true) (hB : DeadR (S.boxes ++ L) (S.boxes ++ deadLo dead L))
    (h : TotY P w0 Y f args (join S (deadLo dead L)) fun v S' => Ext (join S (deadLo dead L)) S' ∧ r v S')
    (loc : ∀ v S S', Same S S' → r v S → r v S') (sh : ∀ v S, r v S → ∃ fn vs, P.funcs[f]? = some fn ∧ v = tupOf vs ∧ likeVs T fn.resultTypes.toList vs = true) :
    (realHk P w0 T).toty Y f args dead S L fun v S1 => ExtO S S1 ∧ r v S1 := by
  refine ⟨hY, (TotY.dead (S := join S L) (B' := S.boxes ++ deadLo dead L) hB h.old).mono fun v S'' ⟨S', e, hE, hr⟩ => ⟨{ S'' with boxes := S.boxes }, ?_, rfl, ⟨⟨rfl, ?_, ?_, ?_⟩, ?_⟩, ?_⟩, fun v S1 hv => sh v S1 hv.2⟩
  · subst e
    show _ = ({ boxes := S.boxes ++ deadLo dead L, toks := _, young := _, old := _ } : St)
    rw [show S.boxes ++ deadLo dead L = S'.boxes from hE.1.symm]
  · subst e; exact hE.2.1
  · subst e; exact hE.2.2
  · subst e; exact hE.2.yng
  · subst e; rfl
  · subst e; exact loc v S' _ ⟨rfl, rfl⟩ hr
end
end Go.Den
namespace Go.Proofs.YtkdickfiifpblaaGreatDoor.D
open Go Go.Den Go.Proofs
set_option maxRecDepth 100000
noncomputable abbrev CONB (f : FuncId) (args : List AV) (i : Nat) (cs : List AL) (r : AV → Prop) : Prop := ConB Tryz.prog (tabOf Tryz.prog) f args i cs r
def undB : BA := ⟨⟨[117, 110, 100, 101, 102]⟩⟩
theorem f22_c {w0 : World} (s : BA) : CON w0 22 [str s] (fun v => v = bool (decide (s = undB))) := by
  refine Con.of_fn (plans := np) hT hmo (nov := true) (fun v hv => ⟨Tryz.f22, [v], by kernel_rfl, rfl, by subst hv; kernel_rfl⟩) (fun S => ?_)
  rw [v22]
  exact ⟨rfl, rfl, Ext.refl S, rfl⟩
theorem f48_c (s0 s1 s2 s : BA) (c : Nat) : CONB 48 [.agg [.str s0, .str s1, .str s2], .ptr c 0] c [.str s] (fun v => v = bool (decide (s2 = s))) := by
  refine ConB.of_fn (plans := np) hT hmo (nov := true) (fun v hv => ⟨Tryz.f48, [v], by kernel_rfl, rfl, by subst hv; kernel_rfl⟩) (fun w0 S t hb => ?_)
  rw [v48]
  refine ⟨rfl, _, hb, ⟨_, rfl, rfl⟩, fun s' hs => ?_⟩
  cases hs
  exact ⟨rfl, Ext.refl S, rfl⟩
theorem f52_c {x : AL} {l : List BA} (h : Vw Rq x l) (hl : l.length ≤ 1000000) (s0 : BA) (c : Nat) : CONB 52 [str s0, .ptr c 0] c [x] (fun v => v = bool (memB s0 l)) := by
  refine ConB.of_fn (plans := np) hT hmo (nov := true) (fun v hv => ⟨Tryz.f52, [v], by kernel_rfl, rfl, by subst hv; kernel_rfl⟩) (fun w0 S t hb => ?_)
  rw [v52]
  refine ⟨rfl, _, hb, ⟨_, rfl, rfl⟩, fun x' hx => ?_⟩
  cases hx
  refine ⟨_, (Contains_c s0 h hl).use S _, fun b S1 hR => ?_⟩
  obtain ⟨hE, he⟩ := hR
  cases he
  exact ⟨rfl, hE, rfl⟩
theorem f29_c {x : AL} {l : List BA} (h : Vw Rq x l) (hl : l.length ≤ 1000000) (s0 s1 s2 : BA) (c : Nat) : CONB 29 [.agg [.str s0, .str s1, .str s2], .ptr c 0] c [x] (fun v => v = bool (memB s2 l)) := by
  refine ConB.of_fn (plans := np) hT hmo (nov := true) (fun v hv => ⟨Tryz.f29, [v], by kernel_rfl, rfl, by subst hv; kernel_rfl⟩) (fun w0 S t hb => ?_)
  rw [v29]
  refine ⟨rfl, _, hb, ⟨_, rfl, rfl⟩, fun x' hx => ?_⟩
  cases hx
  refine ⟨_, (Contains_c s2 h hl).use S _, fun b S1 hR => ?_⟩
  obtain ⟨hE, he⟩ := hR
  cases he
  exact ⟨rfl, hE, rfl⟩
def idxR {α : Type} (p : α → Bool) (l : List α) (v : AV) : Prop := (∃ (i : Nat) (a : α), v = int i ∧ l[i]? = some a ∧ p a = true ∧ ∀ b, b ∈ l.take i → p b = false) ∨ (v = int (-1) ∧ ∀ b, b ∈ l → p b = false)
theorem idxR.sh {α : Type} {p : α → Bool} {l : List α} {f : FuncId} {fn : Func} (hf : Tryz.prog.funcs[f]? = some fn) (hl : ∀ n, likeVs (tabOf Tryz.prog) fn.resultTypes.toList [int n] = true) : ∀ v, idxR p l v → ∃ fn vs, Tryz.prog.funcs[f]? = some fn ∧ v = tupOf vs ∧ likeVs (tabOf Tryz.prog) fn.resultTypes.toList vs = true := by
  rintro v (⟨i, a, rfl, _⟩ | ⟨rfl, _⟩)
  · exact ⟨fn, [int i], hf, rfl, hl _⟩
  · exact ⟨fn, [int (-1)], hf, rfl, hl _⟩
def iIx {α : Type} (S : St) (x : AL) (k : AV) (p : α → Bool) (l : List α) : Nat → KE := fun m env S' L => L = [] ∧ Ext S S' ∧ ∃ (i : Nat) (q : Int), env = [(8, .v (int i)), (7, .v (int l.length)), (4, .v (int q)), (0, .v (.one x)), (1, .v k)] ∧ i ≤ l.length ∧ m = l.length - i ∧ ∀ b, b ∈ l.take i → p b = false
theorem take_no {α : Type} {p : α → Bool} {l : List α} {i : Nat} {a : α} (ha : l[i]? = some a) (hp : p a = false) (h : ∀ b, b ∈ l.take i → p b = false) : ∀ b, b ∈ l.take (i + 1) → p b = false := by
  intro b hb
  rw [take_next ha] at hb
  rcases List.mem_append.1 hb with hb | hb
  · exact h b hb
  · rw [List.mem_singleton.1 hb]
    exact hp
theorem Index50b_c {w0 : World} {x : AL} {l : List BA} (h : Vw Rq x l) (hl : l.length ≤ 1000000) : CON w0 50 [.one x, .clo 22 []] (idxR (fun s => decide (s = undB)) l) := by
  refine Con.of_fn (plans := np) hT hmo (nov := true) (idxR.sh (fn := Tryz.f50) (by kernel_rfl) (fun n => by kernel_rfl)) (fun S => ?_)
  rw [v50b]
  refine ⟨rfl, _, h.len, [8, 7, 4, 0, 1], iIx S x (.clo 22 []) (fun s => decide (s = undB)) l, l.length, ⟨rfl, Ext.refl S, 0, 0, rfl, Nat.zero_le _, rfl, fun y hy => by simp at hy⟩, ?_⟩
  rintro m env S1 L1 ⟨rfl, hE, i, q, rfl, hi, rfl, hne⟩
  refine WSem.of hT hmo (nov := true) (plans := np) (f := 1000) ?_
  rw [b50b_0]
  refine ⟨fun hlt => ?_, fun hge => ?_⟩
  · have hlt := lt_of_dec hlt
    obtain ⟨a, ha⟩ : ∃ a, l[i]? = some a := ⟨_, List.getElem?_eq_getElem hlt⟩
    refine rd1 h ha ?_
    refine ⟨_, (f22_c a).use S1 _, fun b S2 hR => ?_⟩
    obtain ⟨hE2, he⟩ := hR
    cases he
    refine ⟨fun hb => loopK.ret (L' := []) ⟨trivial, trivial⟩ rfl (kont.ret _ ⟨rfl, hE.trans hE2, .inl ⟨i, a, rfl, ha, hb, hne⟩⟩), fun hb => ⟨by unfold in64; omega, loopK.again (L' := []) (m' := l.length - (i + 1)) ⟨trivial, trivial⟩ rfl (by omega) ⟨rfl, hE.trans hE2, i + 1, q, rfl, hlt, rfl, take_no ha hb hne⟩⟩⟩
  · have hge := ge_of_dec hge
    refine loopK.exit (L' := []) ⟨trivial, trivial⟩ rfl (kont.of hT hmo (nov := true) (plans := np) (f := 1000) ?_)
    rw [x50b_0]
    rw [take_all hge] at hne
    exact ⟨rfl, hE, .inr ⟨rfl, hne⟩⟩
theorem Index50c_c {x : AL} {l : List BA} (h : Vw Rq x l) (hl : l.length ≤ 1000000) {y : AL} {ns : List BA} (hy : Vw Rq y ns) (hn : ns.length ≤ 1000000) (c : Nat) : CONB 50 [.one x, .clo 52 [.ptr c 0]] c [y] (idxR (fun s => memB s ns) l) := by
  refine ConB.of_fn (plans := np) hT hmo (nov := true) (idxR.sh (fn := Tryz.f50) (by kernel_rfl) (fun n => by kernel_rfl)) (fun w0 S t hbx => ?_)
  rw [v50c]
  have hcb : ∀ S', Ext S S' → c < S'.boxes.length := fun S' hE => by rw [hE.1]; exact (List.getElem?_eq_some_iff.1 hbx).1
  refine ⟨rfl, _, h.len, [8, 7, 4, 0, 1], iIx S x (.clo 52 [.ptr c 0]) (fun s => memB s ns) l, l.length, ⟨rfl, Ext.refl S, 0, 0, rfl, Nat.zero_le _, rfl, fun y hy => by simp at hy⟩, ?_⟩
  rintro m env S1 L1 ⟨rfl, hE, i, q, rfl, hi, rfl, hne⟩
  refine WSem.of hT hmo (nov := true) (plans := np) (f := 1000) ?_
  rw [b50c_0]
  refine ⟨fun hlt => ?_, fun hge => ?_⟩
  · have hlt := lt_of_dec hlt
    obtain ⟨a, ha⟩ : ∃ a, l[i]? = some a := ⟨_, List.getElem?_eq_getElem hlt⟩
    refine rd1 h ha ?_
    refine ⟨_, (f52_c hy hn a c).useO rfl S1 [] (by rw [List.append_nil, hE.1]; exact hbx), fun b S2 hR => ?_⟩
    obtain ⟨hE2, he⟩ := hR
    cases he
    have hE2 := hE.trans hE2.ext
    refine ⟨fun hb => loopK.ret (L' := []) ⟨⟨hcb _ hE2, trivial⟩, trivial⟩ rfl (kont.ret _ ⟨rfl, hE2, .inl ⟨i, a, rfl, ha, hb, hne⟩⟩), fun hb => ⟨by unfold in64; omega, loopK.again (L' := []) (m' := l.length - (i + 1)) ⟨⟨hcb _ hE2, trivial⟩, trivial⟩ rfl (by omega) ⟨rfl, hE2, i + 1, q, rfl, hlt, rfl, take_no ha hb hne⟩⟩⟩
  · have hge := ge_of_dec hge
    refine loopK.exit (L' := []) ⟨⟨hcb _ hE, trivial⟩, trivial⟩ rfl (kont.of hT hmo (nov := true) (plans := np) (f := 1000) ?_)
    rw [x50c_0]
    rw [take_all hge] at hne
    exact ⟨rfl, hE, .inr ⟨rfl, hne⟩⟩
theorem imAt {x : AL} {l : List Im} (h : Vw Im.cells x l) {i : Nat} {a : Im} (ha : l[i]? = some a) {H : BA → BA → BA → Prop} (hH : H a.spec a.from_ a.loc) :
    ∃ tok n xs, x = .sl tok n xs ∧ 0 ≤ (i : Int) ∧ (i : Int) < (n : Int) ∧ true = true ∧ (∃ ys, likeCells [.str ⟨⟨[]⟩⟩, .str ⟨⟨[]⟩⟩, .str ⟨⟨[]⟩⟩] ys = true ∧ List.take 3 (List.drop ((i : Int).toNat * 3) xs) = ys) ∧
      ∀ (s s1 s2 : BA), List.take 3 (List.drop ((i : Int).toNat * 3) xs) = [.str s, .str s1, .str s2] → H s s1 s2 := by
  obtain ⟨tok, n, xs, g1, g2, g3, g4, g5, g6⟩ := rdA Im_len h ha (zs := [.str ⟨⟨[]⟩⟩, .str ⟨⟨[]⟩⟩, .str ⟨⟨[]⟩⟩]) rfl (H := fun ys => ys = a.cells) rfl
  refine ⟨tok, n, xs, g1, g2, g3, g4, g5, fun s s1 s2 hks => ?_⟩
  rw [g6] at hks
  cases hks
  exact hH
theorem Index47a_c {x : AL} {l : List Im} (h : Vw Im.cells x l) (hl : l.length ≤ 1000000) (s : BA) (c : Nat) : CONB 47 [.one x, .clo 48 [.ptr c 0]] c [.str s] (idxR (fun a : Im => decide (a.loc = s)) l) := by
  refine ConB.of_fn (plans := np) hT hmo (nov := true) (idxR.sh (fn := Tryz.f47) (by kernel_rfl) (fun n => by kernel_rfl)) (fun w0 S t hbx => ?_)
  rw [v47a]
  have hcb : ∀ S', Ext S S' → c < S'.boxes.length := fun S' hE => by rw [hE.1]; exact (List.getElem?_eq_some_iff.1 hbx).1
  refine ⟨rfl, _, h.len, [8, 7, 4, 0, 1], iIx S x (.clo 48 [.ptr c 0]) (fun a : Im => decide (a.loc = s)) l, l.length, ⟨rfl, Ext.refl S, 0, 0, rfl, Nat.zero_le _, rfl, fun y hy => by simp at hy⟩, ?_⟩
  rintro m env S1 L1 ⟨rfl, hE, i, q, rfl, hi, rfl, hne⟩
  refine WSem.of hT hmo (nov := true) (plans := np) (f := 1000) ?_
  rw [b47a_0]
  refine ⟨fun hlt => ?_, fun hge => ?_⟩
  · have hlt := lt_of_dec hlt
    obtain ⟨a, ha⟩ : ∃ a, l[i]? = some a := ⟨_, List.getElem?_eq_getElem hlt⟩
    refine imAt h ha ?_
    refine ⟨_, (f48_c a.spec a.from_ a.loc s c).useO rfl S1 [] (by rw [List.append_nil, hE.1]; exact hbx), fun b S2 hR => ?_⟩
    obtain ⟨hE2, he⟩ := hR
    cases he
    have hE2 := hE.trans hE2.ext
    refine ⟨fun hb => loopK.ret (L' := []) ⟨⟨hcb _ hE2, trivial⟩, trivial⟩ rfl (kont.ret _ ⟨rfl, hE2, .inl ⟨i, a, rfl, ha, hb, hne⟩⟩), fun hb => ⟨by unfold in64; omega, loopK.again (L' := []) (m' := l.length - (i + 1)) ⟨⟨hcb _ hE2, trivial⟩, trivial⟩ rfl (by omega) ⟨rfl, hE2, i + 1, q, rfl, hlt, rfl, take_no ha hb hne⟩⟩⟩
  · have hge := ge_of_dec hge
    refine loopK.exit (L' := []) ⟨⟨hcb _ hE, trivial⟩, trivial⟩ rfl (kont.of hT hmo (nov := true) (plans := np) (f := 1000) ?_)
    rw [x47a_0]
    rw [take_all hge] at hne
    exact ⟨rfl, hE, .inr ⟨rfl, hne⟩⟩
theorem Index47d_c {x : AL} {l : List Im} (h : Vw Im.cells x l) (hl : l.length ≤ 1000000) {y : AL} {ns : List BA} (hy : Vw Rq y ns) (hn : ns.length ≤ 1000000) (c : Nat) : CONB 47 [.one x, .clo 29 [.ptr c 0]] c [y] (idxR (fun a : Im => memB a.loc ns) l) := by
  refine ConB.of_fn (plans := np) hT hmo (nov := true) (idxR.sh (fn := Tryz.f47) (by kernel_rfl) (fun n => by kernel_rfl)) (fun w0 S t hbx => ?_)
  rw [v47d]
  have hcb : ∀ S', Ext S S' → c < S'.boxes.length := fun S' hE => by rw [hE.1]; exact (List.getElem?_eq_some_iff.1 hbx).1
  refine ⟨rfl, _, h.len, [8, 7, 4, 0, 1], iIx S x (.clo 29 [.ptr c 0]) (fun a : Im => memB a.loc ns) l, l.length, ⟨rfl, Ext.refl S, 0, 0, rfl, Nat.zero_le _, rfl, fun y hy => by simp at hy⟩, ?_⟩
  rintro m env S1 L1 ⟨rfl, hE, i, q, rfl, hi, rfl, hne⟩
  refine WSem.of hT hmo (nov := true) (plans := np) (f := 1000) ?_
  rw [b47d_0]
  refine ⟨fun hlt => ?_, fun hge => ?_⟩
  · have hlt := lt_of_dec hlt
    obtain ⟨a, ha⟩ : ∃ a, l[i]? = some a := ⟨_, List.getElem?_eq_getElem hlt⟩
    refine imAt h ha ?_
    refine ⟨_, (f29_c hy hn a.spec a.from_ a.loc c).useO rfl S1 [] (by rw [List.append_nil, hE.1]; exact hbx), fun b S2 hR => ?_⟩
    obtain ⟨hE2, he⟩ := hR
    cases he
    have hE2 := hE.trans hE2.ext
    refine ⟨fun hb => loopK.ret (L' := []) ⟨⟨hcb _ hE2, trivial⟩, trivial⟩ rfl (kont.ret _ ⟨rfl, hE2, .inl ⟨i, a, rfl, ha, hb, hne⟩⟩), fun hb => ⟨by unfold in64; omega, loopK.again (L' := []) (m' := l.length - (i + 1)) ⟨⟨hcb _ hE2, trivial⟩, trivial⟩ rfl (by omega) ⟨rfl, hE2, i + 1, q, rfl, hlt, rfl, take_no ha hb hne⟩⟩⟩
  · have hge := ge_of_dec hge
    refine loopK.exit (L' := []) ⟨⟨hcb _ hE, trivial⟩, trivial⟩ rfl (kont.of hT hmo (nov := true) (plans := np) (f := 1000) ?_)
    rw [x47d_0]
    rw [take_all hge] at hne
    exact ⟨rfl, hE, .inr ⟨rfl, hne⟩⟩
def hasImp (m : Md) (s : BA) : Bool := m.imps.any fun a => decide (a.loc = s)
theorem impOf_c {w0 : World} {m : Md} (h : MV m) (s : BA) : CON w0 18 [m.av, str s] (fun v => ∃ a b c, v = .tup [.agg [.str a, .str b, .str c], bool (hasImp m s)]) := by
  refine Con.of_fn (plans := np) hT hmo (nov := true) (fun v hv => by obtain ⟨a, b, c, rfl⟩ := hv; exact ⟨Tryz.f18, [.agg [.str a, .str b, .str c], bool (hasImp m s)], by kernel_rfl, rfl, by kernel_rfl⟩) (fun S => ?_)
  rw [v18]
  have hci := h.ci
  refine ⟨rfl, _, (Index47a_c h.vi (by omega) s (S.boxes.length + 1)).useO rfl S _ (t := 9) (by rw [List.getElem?_append_right (by omega)]; simp), fun n S1 hR => ?_⟩
  obtain ⟨hE, hv⟩ := hR
  rcases hv with ⟨i, a, he, ha, hp, _⟩ | ⟨he, hno⟩
  · cases he
    have hi := (List.getElem?_eq_some_iff.1 ha).1
    refine ⟨fun hb => absurd (of_decide_eq_true hb) (by omega), fun _ => ?_⟩
    have e : hasImp m s = true := List.any_eq_true.2 ⟨a, List.mem_of_getElem? ha, hp⟩
    exact imA h ha ⟨rfl, hE.ext, a.spec, a.from_, a.loc, by rw [e]⟩
  · cases he
    have e : hasImp m s = false := List.any_eq_false.2 fun a ha => by rw [show decide (a.loc = s) = false from hno a ha]; simp
    exact ⟨fun _ => ⟨rfl, hE.ext, ⟨⟨[]⟩⟩, ⟨⟨[]⟩⟩, ⟨⟨[]⟩⟩, by rw [e]⟩, fun hb => absurd (of_decide_eq_false hb) (by omega)⟩
end Go.Proofs.YtkdickfiifpblaaGreatDoor.D
namespace Go.Proofs.YtkdickfiifpblaaGreatDoor.D
open Go Go.Den Go.Proofs
theorem v69 : ∀ (hk : Hk) (plans : Nat->Plan) (n1 : Int) (S : St) (Q : AV->St->Prop),wFn cfGrow hk Tryz.prog (tabY Tryz.prog) plans false 69 [.one .nilsl,.one (.i n1)] S Q=(true=true/\(decide (n1 < 0)=true->False)/\(decide (n1 < 0)=false->AL.nilsl=.nilsl/\∃ n : Nat,some 0=some n/\in64 (0 - (↑n : Int))/\in64 (n1 - (0 - (↑n : Int)))/\(decide (n1 - (0 - (↑n : Int)) >
 0)=true->AL.nilsl=.nilsl/\AL.nilsl=.nilsl/\(0 : Int)=0/\AL.nilsl=.nilsl/\∃ len : Nat,AL.int .i64 (n1 - (0 - (↑n : Int)))=.i (↑len : Int)/\0 < len/\len<=9223372036854775807/\len * 16<=140737488355328/\1=1/\some IntKind.i64=some .i64/\∃ n : Nat,some 0=some n/\∃ tk len_1 xs,AL.sl (some S.toks.length) len []=.sl (some tk) len_1 xs/\0<=(↑n : Int)/\(↑n : Int)<=(↑len_1 :
 Int)/\true=true/\Q (.one (.sl (some tk) (↑n : Int).toNat (List.take ((↑n : Int).toNat * 1) xs))) (S.born (0,9,1)))/\(decide (n1 - (0 - (↑n : Int)) > 0)=false->true=true/\Q (.one .nilsl)
 S)))
 := by intros; kernel_rfl
theorem v53 : ∀ (hk : Hk) (plans : Nat->Plan) (n1 : Int) (S : St) (Q : AV->St->Prop),wFn cfGrow hk Tryz.prog (tabY Tryz.prog) plans false 53 [.one .nilsl,.one (.i n1)] S Q=(true=true/\(decide (n1 < 0)=true->False)/\(decide (n1 < 0)=false->AL.nilsl=.nilsl/\∃ n : Nat,some 0=some n/\in64 (0 - (↑n : Int))/\in64 (n1 - (0 - (↑n : Int)))/\(decide (n1 - (0 - (↑n : Int)) >
 0)=true->AL.nilsl=.nilsl/\AL.nilsl=.nilsl/\(0 : Int)=0/\AL.nilsl=.nilsl/\∃ len : Nat,AL.int .i64 (n1 - (0 - (↑n : Int)))=.i (↑len : Int)/\0 < len/\len<=9223372036854775807/\len * 24<=140737488355328/\2=2/\some IntKind.i64=some .i64/\∃ n : Nat,some 0=some n/\∃ tk len_1 xs,AL.sl (some S.toks.length) len []=.sl (some tk) len_1 xs/\0<=(↑n : Int)/\(↑n : Int)<=(↑len_1 :
 Int)/\true=true/\Q (.one (.sl (some tk) (↑n : Int).toNat (List.take ((↑n : Int).toNat * 2) xs))) (S.born (0,36,2)))/\(decide (n1 - (0 - (↑n : Int)) > 0)=false->true=true/\Q (.one .nilsl)
 S)))
 := by intros; kernel_rfl
theorem v20b : ∀ (hk : Hk) (plans : Nat->Plan) (x0 : AL) (S : St) (Q : AV->St->Prop),wFn cfDel hk Tryz.prog (tabY Tryz.prog) plans false 20 [.one x0,.clo 22 []] S Q=(true=true/\∃ R,hk.1 50 [.one x0,.clo 22 []] S [] R/\∀ (n : Int) (S1 : St),R (.one (.i n)) S1->((n == -1)=true->true=true/\Q (.one x0) S1)/\((n == -1)=false->in64 (n + 1)/\hk.2 42 (codeOf Tryz.prog 20
 [1,1,1,0,1,0,0]) [.blk 0,.seq (codeOf Tryz.prog 20 [1,1,1,1])] (wEnd (tabY Tryz.prog) Tryz.f20 false S.boxes.length Q) [(6,.v (.one (.i (n + 1)))),(15,.v (.one (.i (n + 1)))),(14,.v (.one (.i n))),(12,.v (.one (.bool (n == -1)))),(11,.v (.one (.i n))),(5,.v (.one (.i n))),(10,.v (.one (.i n))),(9,.v (.clo 22 [])),(8,.v (.one x0)),(4,.v (.one .nilsl)),(0,.v (.one x0)),(1,.v
 (.clo 22 []))] S1
 []))
 := by intros; kernel_rfl
theorem b20b_0 : ∀ (hk : Hk) (plans : Nat->Plan) (x0 : AL) (n6 n5 : Int) (S : St) (K : QW),wCode cfDel hk Tryz.prog (tabY Tryz.prog) 42 plans 1000 (codeOf Tryz.prog 20 [1,1,1,0,1,0,0]) [] (fun e env S L => K e (restr [6,5,4,0,1] env) S L) [(6,.v (.one (.i n6))),(5,.v (.one (.i n5))),(4,.v (.one .nilsl)),(0,.v (.one x0)),(1,.v (.clo 22 []))] S []=∃ n,x0.len?=some n/\(decide (n6
 < (↑n : Int))=true->∃ tok n xs,x0=.sl tok n xs/\0<=n6/\n6 < (↑n : Int)/\(∃ x,likeCells [.str k_] [x]=true/\(List.drop (n6.toNat * 1) xs)[0]?=some x)/\∀ (s : ByteArray),(List.drop (n6.toNat * 1) xs)[0]?=some (.str s)->∃ R,hk.1 22 [.one (.str s)] S [] R/\∀ (b : Bool) (S1 : St),R (.one (.bool b)) S1->((!b)=true->∃ tk len xs,x0=.sl (some tk) len xs/\0<=n5/\n5 < (↑len : Int)/\1=1/\∃
 m e s_1,S1.tok tk=some (m,e,s_1)/\List.Mem tk S1.young/\n5.toNat * 1 + 1<=m/\true=true/\in64 (n5 + 1)/\in64 (n6 + 1)/\K .normal [(6,.v (.one (.i (n6 + 1)))),(5,.v (.one (.i (n5 + 1)))),(4,.v (.one .nilsl)),(0,.v (.one (AL.put S1.has tk (n5.toNat * 1) [.str s] x0))),(1,.v (.clo 22 []))] (S1.put tk (n5.toNat * 1) [.str s]) [])/\((!b)=false->in64 (n6 + 1)/\K .normal [(6,.v (.one
 (.i (n6 + 1)))),(5,.v (.one (.i n5))),(4,.v (.one .nilsl)),(0,.v (.one x0)),(1,.v (.clo 22 []))] S1 []))/\(decide (n6 < (↑n : Int))=false->K (.exit 0) [(6,.v (.one (.i n6))),(5,.v (.one (.i n5))),(4,.v (.one .nilsl)),(0,.v (.one x0)),(1,.v (.clo 22 []))] S
 [])
 := by intros; kernel_rfl
theorem x20b_0 : ∀ (hk : Hk) (plans : Nat->Plan) (x0 : AL) (S : St) (Q : AV->St->Prop) (n6 n5 : Int) (S_1 : St),wCode.wEx cfDel hk Tryz.prog (tabY Tryz.prog) 42 plans 1000 (.exit 0) [.blk 0,.seq (codeOf Tryz.prog 20 [1,1,1,1])] (wEnd (tabY Tryz.prog) Tryz.f20 false S.boxes.length Q) [(6,.v (.one (.i n6))),(5,.v (.one (.i n5))),(4,.v (.one .nilsl)),(0,.v (.one x0)),(1,.v (.clo
 22 []))] S_1 []=∃ tk len xs,x0=.sl (some tk) len xs/\0<=n5/\n5<=(↑len : Int)/\1=1/\∃ m e s,S_1.tok tk=some (m,e,s)/\List.Mem tk S_1.young/\n5.toNat * 1 + (len - n5.toNat) * 1<=m/\clrs S_1.has tk (List.replicate (len - n5.toNat) [.str k_]).flatten=true/\∃ tk_1 len_1 xs,AL.put S_1.has tk (n5.toNat * 1) (List.replicate (len - n5.toNat) [.str k_]).flatten x0=.sl (some tk_1) len_1
 xs/\0<=n5/\n5<=(↑len_1 : Int)/\true=true/\Q (.one (.sl (some tk_1) n5.toNat (List.take (n5.toNat * 1) xs))) (S_1.put tk (n5.toNat * 1) (List.replicate (len - n5.toNat) [.str
 k_]).flatten)
 := by intros; kernel_rfl
theorem v20c : ∀ (hk : Hk) (plans : Nat->Plan) (x0 : AL) (c1 : Nat) (S : St) (Q : AV->St->Prop),wFn cfDel hk Tryz.prog (tabY Tryz.prog) plans false 20 [.one x0,.clo 52 [.ptr c1 0]] S Q=(true=true/\∃ R,hk.1 50 [.one x0,.clo 52 [.ptr c1 0]] S [] R/\∀ (n : Int) (S1 : St),R (.one (.i n)) S1->((n == -1)=true->true=true/\Q (.one x0) S1)/\((n == -1)=false->in64 (n + 1)/\hk.2 42
 (codeOf Tryz.prog 20 [1,1,1,0,1,0,0]) [.blk 0,.seq (codeOf Tryz.prog 20 [1,1,1,1])] (wEnd (tabY Tryz.prog) Tryz.f20 false S.boxes.length Q) [(6,.v (.one (.i (n + 1)))),(15,.v (.one (.i (n + 1)))),(14,.v (.one (.i n))),(12,.v (.one (.bool (n == -1)))),(11,.v (.one (.i n))),(5,.v (.one (.i n))),(10,.v (.one (.i n))),(9,.v (.clo 52 [.ptr c1 0])),(8,.v (.one x0)),(4,.v (.one
 .nilsl)),(0,.v (.one x0)),(1,.v (.clo 52 [.ptr c1 0]))] S1
 []))
 := by intros; kernel_rfl
theorem b20c_0 : ∀ (hk : Hk) (plans : Nat->Plan) (x0 : AL) (c1 : Nat) (n6 n5 : Int) (S : St) (K : QW),wCode cfDel hk Tryz.prog (tabY Tryz.prog) 42 plans 1000 (codeOf Tryz.prog 20 [1,1,1,0,1,0,0]) [] (fun e env S L => K e (restr [6,5,4,0,1] env) S L) [(6,.v (.one (.i n6))),(5,.v (.one (.i n5))),(4,.v (.one .nilsl)),(0,.v (.one x0)),(1,.v (.clo 52 [.ptr c1 0]))] S []=∃
 n,x0.len?=some n/\(decide (n6 < (↑n : Int))=true->∃ tok n xs,x0=.sl tok n xs/\0<=n6/\n6 < (↑n : Int)/\(∃ x,likeCells [.str k_] [x]=true/\(List.drop (n6.toNat * 1) xs)[0]?=some x)/\∀ (s : ByteArray),(List.drop (n6.toNat * 1) xs)[0]?=some (.str s)->∃ R,hk.1 52 [.one (.str s),.ptr c1 0] S [] R/\∀ (b : Bool) (S1 : St),R (.one (.bool b)) S1->((!b)=true->∃ tk len xs,x0=.sl (some tk)
 len xs/\0<=n5/\n5 < (↑len : Int)/\1=1/\∃ m e s_1,S1.tok tk=some (m,e,s_1)/\List.Mem tk S1.young/\n5.toNat * 1 + 1<=m/\true=true/\in64 (n5 + 1)/\in64 (n6 + 1)/\K .normal [(6,.v (.one (.i (n6 + 1)))),(5,.v (.one (.i (n5 + 1)))),(4,.v (.one .nilsl)),(0,.v (.one (AL.put S1.has tk (n5.toNat * 1) [.str s] x0))),(1,.v (.clo 52 [.ptr c1 0]))] (S1.put tk (n5.toNat * 1) [.str s])
 [])/\((!b)=false->in64 (n6 + 1)/\K .normal [(6,.v (.one (.i (n6 + 1)))),(5,.v (.one (.i n5))),(4,.v (.one .nilsl)),(0,.v (.one x0)),(1,.v (.clo 52 [.ptr c1 0]))] S1 []))/\(decide (n6 < (↑n : Int))=false->K (.exit 0) [(6,.v (.one (.i n6))),(5,.v (.one (.i n5))),(4,.v (.one .nilsl)),(0,.v (.one x0)),(1,.v (.clo 52 [.ptr c1 0]))] S
 [])
 := by intros; kernel_rfl
theorem x20c_0 : ∀ (hk : Hk) (plans : Nat->Plan) (x0 : AL) (c1 : Nat) (S : St) (Q : AV->St->Prop) (n6 n5 : Int) (S_1 : St),wCode.wEx cfDel hk Tryz.prog (tabY Tryz.prog) 42 plans 1000 (.exit 0) [.blk 0,.seq (codeOf Tryz.prog 20 [1,1,1,1])] (wEnd (tabY Tryz.prog) Tryz.f20 false S.boxes.length Q) [(6,.v (.one (.i n6))),(5,.v (.one (.i n5))),(4,.v (.one .nilsl)),(0,.v (.one
 x0)),(1,.v (.clo 52 [.ptr c1 0]))] S_1 []=∃ tk len xs,x0=.sl (some tk) len xs/\0<=n5/\n5<=(↑len : Int)/\1=1/\∃ m e s,S_1.tok tk=some (m,e,s)/\List.Mem tk S_1.young/\n5.toNat * 1 + (len - n5.toNat) * 1<=m/\clrs S_1.has tk (List.replicate (len - n5.toNat) [.str k_]).flatten=true/\∃ tk_1 len_1 xs,AL.put S_1.has tk (n5.toNat * 1) (List.replicate (len - n5.toNat) [.str k_]).flatten
 x0=.sl (some tk_1) len_1 xs/\0<=n5/\n5<=(↑len_1 : Int)/\true=true/\Q (.one (.sl (some tk_1) n5.toNat (List.take (n5.toNat * 1) xs))) (S_1.put tk (n5.toNat * 1) (List.replicate (len - n5.toNat) [.str
 k_]).flatten)
 := by intros; kernel_rfl
theorem v28d : ∀ (hk : Hk) (plans : Nat->Plan) (x0 : AL) (c1 : Nat) (S : St) (Q : AV->St->Prop),wFn cfDel hk Tryz.prog (tabY Tryz.prog) plans false 28 [.one x0,.clo 29 [.ptr c1 0]] S Q=(true=true/\∃ R,hk.1 47 [.one x0,.clo 29 [.ptr c1 0]] S [] R/\∀ (n : Int) (S1 : St),R (.one (.i n)) S1->((n == -1)=true->true=true/\Q (.one x0) S1)/\((n == -1)=false->in64 (n + 1)/\hk.2 42
 (codeOf Tryz.prog 28 [1,1,1,0,1,0,0]) [.blk 0,.seq (codeOf Tryz.prog 28 [1,1,1,1])] (wEnd (tabY Tryz.prog) Tryz.f28 false S.boxes.length Q) [(6,.v (.one (.i (n + 1)))),(15,.v (.one (.i (n + 1)))),(14,.v (.one (.i n))),(12,.v (.one (.bool (n == -1)))),(11,.v (.one (.i n))),(5,.v (.one (.i n))),(10,.v (.one (.i n))),(9,.v (.clo 29 [.ptr c1 0])),(8,.v (.one x0)),(4,.v (.one
 .nilsl)),(0,.v (.one x0)),(1,.v (.clo 29 [.ptr c1 0]))] S1
 []))
 := by intros; kernel_rfl
theorem b28d_0 : ∀ (hk : Hk) (plans : Nat->Plan) (x0 : AL) (c1 : Nat) (n6 n5 : Int) (S : St) (K : QW),wCode cfDel hk Tryz.prog (tabY Tryz.prog) 42 plans 1000 (codeOf Tryz.prog 28 [1,1,1,0,1,0,0]) [] (fun e env S L => K e (restr [6,5,4,0,1] env) S L) [(6,.v (.one (.i n6))),(5,.v (.one (.i n5))),(4,.v (.one .nilsl)),(0,.v (.one x0)),(1,.v (.clo 29 [.ptr c1 0]))] S []=∃
 n,x0.len?=some n/\(decide (n6 < (↑n : Int))=true->∃ tok n xs,x0=.sl tok n xs/\0<=n6/\n6 < (↑n : Int)/\true=true/\(∃ xs_1,likeCells [.str k_,.str k_,.str k_] xs_1=true/\List.take 3 (List.drop (n6.toNat * 3) xs)=xs_1)/\∀ (s s_1 s_2 : ByteArray),List.take 3 (List.drop (n6.toNat * 3) xs)=[.str s,.str s_1,.str s_2]->∃ R,hk.1 29 [.agg [.str s,.str s_1,.str s_2],.ptr c1 0] S
 [(48,[.str s,.str s_1,.str s_2])] R/\∀ (b : Bool) (S1 : St),R (.one (.bool b)) S1->((!b)=true->∃ tk len xs,x0=.sl (some tk) len xs/\0<=n5/\n5 < (↑len : Int)/\3=3/\∃ m e s_3,S1.tok tk=some (m,e,s_3)/\List.Mem tk S1.young/\n5.toNat * 3 + 3<=m/\true=true/\in64 (n5 + 1)/\in64 (n6 + 1)/\K .normal [(6,.v (.one (.i (n6 + 1)))),(5,.v (.one (.i (n5 + 1)))),(4,.v (.one .nilsl)),(0,.v
 (.one (AL.put S1.has tk (n5.toNat * 3) [.str s,.str s_1,.str s_2] x0))),(1,.v (.clo 29 [.ptr c1 0]))] (S1.put tk (n5.toNat * 3) [.str s,.str s_1,.str s_2]) [(48,[.str s,.str s_1,.str s_2])])/\((!b)=false->in64 (n6 + 1)/\K .normal [(6,.v (.one (.i (n6 + 1)))),(5,.v (.one (.i n5))),(4,.v (.one .nilsl)),(0,.v (.one x0)),(1,.v (.clo 29 [.ptr c1 0]))] S1 [(48,[.str s,.str s_1,.str
 s_2])]))/\(decide (n6 < (↑n : Int))=false->K (.exit 0) [(6,.v (.one (.i n6))),(5,.v (.one (.i n5))),(4,.v (.one .nilsl)),(0,.v (.one x0)),(1,.v (.clo 29 [.ptr c1 0]))] S
 [])
 := by intros; kernel_rfl
theorem x28d_0 : ∀ (hk : Hk) (plans : Nat->Plan) (x0 : AL) (c1 : Nat) (S : St) (Q : AV->St->Prop) (n6 n5 : Int) (S_1 : St),wCode.wEx cfDel hk Tryz.prog (tabY Tryz.prog) 42 plans 1000 (.exit 0) [.blk 0,.seq (codeOf Tryz.prog 28 [1,1,1,1])] (wEnd (tabY Tryz.prog) Tryz.f28 false S.boxes.length Q) [(6,.v (.one (.i n6))),(5,.v (.one (.i n5))),(4,.v (.one .nilsl)),(0,.v (.one
 x0)),(1,.v (.clo 29 [.ptr c1 0]))] S_1 []=∃ tk len xs,x0=.sl (some tk) len xs/\0<=n5/\n5<=(↑len : Int)/\3=3/\∃ m e s,S_1.tok tk=some (m,e,s)/\List.Mem tk S_1.young/\n5.toNat * 3 + (len - n5.toNat) * 3<=m/\clrs S_1.has tk (List.replicate (len - n5.toNat) [.str k_,.str k_,.str k_]).flatten=true/\∃ tk_1 len_1 xs,AL.put S_1.has tk (n5.toNat * 3) (List.replicate (len - n5.toNat)
 [.str k_,.str k_,.str k_]).flatten x0=.sl (some tk_1) len_1 xs/\0<=n5/\n5<=(↑len_1 : Int)/\true=true/\Q (.one (.sl (some tk_1) n5.toNat (List.take (n5.toNat * 3) xs))) (S_1.put tk (n5.toNat * 3) (List.replicate (len - n5.toNat) [.str k_,.str k_,.str
 k_]).flatten)
 := by intros; kernel_rfl
end Go.Proofs.YtkdickfiifpblaaGreatDoor.D
namespace Go.Proofs.YtkdickfiifpblaaGreatDoor.D
open Go Go.Den Go.Proofs
set_option maxRecDepth 100000
def PlC {α : Type} (c : α → List AL) : Prop := ∀ (p : Nat → Bool) (tk : Nat) (a : α), clrs p tk (c a) = true
theorem PlC.Rq : PlC Rq := fun _ _ _ => rfl
theorem PlC.Im : PlC Im.cells := fun _ _ _ => rfl
theorem PlC.Xp : PlC Xp.cells := fun _ _ _ => rfl
theorem PlC.Sm : PlC Sm.cells := fun _ _ _ => rfl
theorem PlC.Er : PlC Er.cells := fun _ _ _ => rfl
theorem PlC.Nt : PlC Nt.cells := fun _ _ _ => rfl
theorem clrs_append {p : Nat → Bool} {tk : Nat} : ∀ (xs ys : List AL), clrs p tk (xs ++ ys) = (clrs p tk xs && clrs p tk ys)
  | [], ys => by simp [clrs]
  | x :: xs, ys => by rw [List.cons_append, clrs, clrs, clrs_append xs ys, Bool.and_assoc]
theorem PlC.flat {α : Type} {c : α → List AL} (h : PlC c) (p : Nat → Bool) (tk : Nat) : ∀ l : List α, clrs p tk (l.flatMap c) = true
  | [] => rfl
  | a :: l => by rw [List.flatMap_cons, clrs_append, h p tk a, h.flat p tk l]; rfl
mutual
theorem clr_mono {p q : Nat → Bool} {tk : Nat} (h : ∀ u, p u = true → q u = true) : ∀ (x : AL), x.clr p tk = true → x.clr q tk = true
  | .int .., _ => rfl
  | .bool _, _ => rfl
  | .str _, _ => rfl
  | .nilsl, _ => rfl
  | .undef, _ => rfl
  | .sl none _ _, k => by simp [AL.clr] at k
  | .sl (some u) _ xs, k => by
    rw [AL.clr, Bool.and_eq_true, Bool.and_eq_true] at k ⊢
    exact ⟨⟨k.1.1, h u k.1.2⟩, clrs_mono h xs k.2⟩
theorem clrs_mono {p q : Nat → Bool} {tk : Nat} (h : ∀ u, p u = true → q u = true) : ∀ (xs : List AL), clrs p tk xs = true → clrs q tk xs = true
  | [], _ => rfl
  | x :: xs, k => by
    rw [clrs, Bool.and_eq_true] at k ⊢
    exact ⟨clr_mono h x k.1, clrs_mono h xs k.2⟩
end
theorem _root_.Go.Den.ExtO.has {S S' : St} (h : ExtO S S') {u : Nat} (k : S.has u = true) : S'.has u = true := by
  unfold St.has at *
  rw [Bool.or_eq_true] at *
  rcases k with k | k
  · obtain ⟨x, hx⟩ := Option.isSome_iff_exists.1 k
    exact .inl (by rw [h.1.2.tok u x hx]; rfl)
  · exact .inr (by rw [h.2]; exact k)
theorem _root_.Go.Den.ExtO.clrB {S S' : St} (h : ExtO S S') {tk : Nat} (k : clrB S tk S.boxes) : clrB S' tk S'.boxes := by
  rw [h.1.1]
  exact fun b hb => clrs_mono (fun u hu => h.has hu) _ (k b hb)
theorem spl_at : ∀ (pre xs vs : List AL), vs.length ≤ xs.length → spl (pre ++ xs) pre.length vs = pre ++ (vs ++ xs.drop vs.length)
  | [], xs, vs, h => by
    apply List.ext_getElem?
    intro i
    rw [List.nil_append, List.nil_append]
    by_cases hi : i < xs.length
    · rw [spl_get _ _ _ _ hi]
      by_cases h2 : i < vs.length
      · rw [if_pos (by simp; exact h2), List.getElem?_append_left h2]
        simp
      · rw [if_neg (by simp; omega), List.getElem?_append_right (by omega), List.getElem?_drop, show vs.length + (i - vs.length) = i by omega]
    · rw [List.getElem?_eq_none (by rw [spl_len]; omega), List.getElem?_eq_none (by rw [List.length_append, List.length_drop]; omega)]
  | x :: pre, xs, vs, h => by
    show spl (x :: (pre ++ xs)) (pre.length + 1) vs = _
    rw [spl, spl_at pre xs vs h]
    rfl
theorem flat_head {α : Type} (c : α → List AL) (sz : Nat) (hc : ∀ x, (c x).length = sz) (l r : List α) : ((l ++ r).flatMap c).take (l.length * sz) = l.flatMap c := by
  rw [List.flatMap_append, List.take_append_of_le_length (by rw [flat_len c sz hc]; exact Nat.le_refl _), List.take_of_length_le (by rw [flat_len c sz hc]; exact Nat.le_refl _)]
def dcur {α : Type} (p : α → Bool) (l : List α) (i : Nat) : List α := (l.take i).filter (fun a => !p a) ++ l.drop ((l.take i).filter fun a => !p a).length
def dj {α : Type} (p : α → Bool) (l : List α) (i : Nat) : Nat := ((l.take i).filter fun a => !p a).length
theorem dj_le {α : Type} (p : α → Bool) (l : List α) (i : Nat) : dj p l i ≤ i := by
  unfold dj
  exact Nat.le_trans (List.length_filter_le _ _) (by rw [List.length_take]; omega)
theorem dj_len {α : Type} (p : α → Bool) (l : List α) (i : Nat) : dj p l i ≤ l.length := by
  unfold dj
  exact Nat.le_trans (List.length_filter_le _ _) (by rw [List.length_take]; omega)
theorem dcur_len {α : Type} (p : α → Bool) (l : List α) (i : Nat) : (dcur p l i).length = l.length := by
  have := dj_len p l i
  unfold dj at this
  unfold dcur
  rw [List.length_append, List.length_drop]
  omega
theorem dcur_get {α : Type} (p : α → Bool) (l : List α) {i : Nat} {a : α} (ha : l[i]? = some a) : (dcur p l i)[i]? = some a := by
  have := dj_le p l i
  unfold dj at this
  unfold dcur
  rw [List.getElem?_append_right this, List.getElem?_drop, show ((l.take i).filter fun a => !p a).length + (i - ((l.take i).filter fun a => !p a).length) = i by omega]
  exact ha
theorem dj_no {α : Type} {p : α → Bool} {l : List α} {i : Nat} {a : α} (ha : l[i]? = some a) (hp : p a = true) : dj p l (i + 1) = dj p l i ∧ dcur p l (i + 1) = dcur p l i := by
  have e : (l.take (i + 1)).filter (fun a => !p a) = (l.take i).filter fun a => !p a := by rw [take_next ha, List.filter_append]; simp [hp]
  unfold dj dcur
  rw [e]
  exact ⟨rfl, rfl⟩
theorem dj_yes {α : Type} {p : α → Bool} {l : List α} {i : Nat} {a : α} (ha : l[i]? = some a) (hp : p a = false) : dj p l (i + 1) = dj p l i + 1 := by
  unfold dj
  rw [take_next ha, List.filter_append]
  simp [hp]
theorem dcur_yes {α : Type} {p : α → Bool} {l : List α} {i : Nat} {a : α} (ha : l[i]? = some a) (hp : p a = false) (c : α → List AL) (sz : Nat) (hc : ∀ x, (c x).length = sz) : spl ((dcur p l i).flatMap c) (dj p l i * sz) (c a) = (dcur p l (i + 1)).flatMap c := by
  have hi := (List.getElem?_eq_some_iff.1 ha).1
  have hj := dj_le p l i
  have e : (l.take (i + 1)).filter (fun a => !p a) = ((l.take i).filter fun a => !p a) ++ [a] := by rw [take_next ha, List.filter_append]; simp [hp]
  have e2 : dcur p l (i + 1) = ((l.take i).filter fun a => !p a) ++ (a :: l.drop (dj p l i + 1)) := by
    unfold dcur dj
    rw [e, List.length_append, List.append_assoc]
    rfl
  obtain ⟨b, hb⟩ : ∃ b, l[dj p l i]? = some b := ⟨_, List.getElem?_eq_getElem (by omega)⟩
  have e3 : l.drop (dj p l i) = b :: l.drop (dj p l i + 1) := by
    obtain ⟨h1, h2⟩ := List.getElem?_eq_some_iff.1 hb
    rw [← h2]
    exact List.drop_eq_getElem_cons h1
  have e4 : dcur p l i = ((l.take i).filter fun a => !p a) ++ (b :: l.drop (dj p l i + 1)) := by
    rw [← e3]
    rfl
  rw [e2, e4, List.flatMap_append, List.flatMap_append, List.flatMap_cons, List.flatMap_cons]
  have hl : (((l.take i).filter fun a => !p a).flatMap c).length = dj p l i * sz := flat_len c sz hc _
  rw [← hl, spl_at _ _ _ (by rw [List.length_append, hc, hc]; omega)]
  congr 1
  rw [List.drop_append_of_le_length (by rw [hc, hc]; exact Nat.le_refl _), List.drop_of_length_le (by rw [hc, hc]; exact Nat.le_refl _)]
  rfl
theorem dcur_all {α : Type} {p : α → Bool} {l : List α} {i : Nat} (hi : ¬ i < l.length) : dj p l i = (l.filter fun a => !p a).length ∧ dcur p l i = (l.filter fun a => !p a) ++ l.drop (l.filter fun a => !p a).length := by
  unfold dj dcur
  rw [take_all hi]
  exact ⟨rfl, rfl⟩
theorem dcur_start {α : Type} {p : α → Bool} {l : List α} {i : Nat} {a : α} (ha : l[i]? = some a) (hp : p a = true) (hno : ∀ b, b ∈ l.take i → p b = false) : dj p l (i + 1) = i ∧ dcur p l (i + 1) = l := by
  obtain ⟨e1, e2⟩ := dj_no ha hp
  have hi := (List.getElem?_eq_some_iff.1 ha).1
  have e : (l.take i).filter (fun a => !p a) = l.take i := List.filter_eq_self.2 fun b hb => by rw [hno b hb]; rfl
  rw [e1, e2]
  unfold dj dcur
  rw [e, List.length_take, show min i l.length = i by omega]
  exact ⟨rfl, List.take_append_drop i l⟩
def Yg {α : Type} (c : α → List AL) (sz : Nat) (S : St) (x : AL) (l : List α) : Prop := (x = .nilsl ∧ l = []) ∨ ∃ tk m e s, x = .sl (some tk) l.length (l.flatMap c) ∧ S.tok tk = some (m, e, s) ∧ tk ∈ S.young ∧ l.length * sz ≤ m
theorem Yg.vw {α : Type} {c : α → List AL} {sz : Nat} {S : St} {x : AL} {l : List α} (h : Yg c sz S x l) : Vw c x l := by
  rcases h with ⟨h1, h2⟩ | ⟨tk, m, e, s, h, _⟩
  · exact .inl ⟨h1, h2⟩
  · exact .inr ⟨_, h⟩
theorem Yg.ext {α : Type} {c : α → List AL} {sz : Nat} {S S' : St} {x : AL} {l : List α} (h : Yg c sz S x l) (k : TokLe S S') : Yg c sz S' x l := by
  rcases h with h | ⟨tk, m, e, s, h1, h2, h3, h4⟩
  · exact .inl h
  · exact .inr ⟨tk, m, e, s, h1, k.tok _ _ h2, k.yng _ h3, h4⟩
theorem Yg.same {α : Type} {c : α → List AL} {sz : Nat} {S S' : St} {x : AL} {l : List α} (h : Yg c sz S x l) (k : Same S S') : Yg c sz S' x l := h.ext k.le
theorem _root_.Go.Den.Row.yg {α : Type} {c : α → List AL} {S : St} {e : TypeId} {sz : Nat} {x : AL} {l : List α} (h : Row S e sz x l.length (l.flatMap c)) : Yg c sz S x l := by
  obtain ⟨h1, ⟨rfl, h⟩ | ⟨tk, rfl, h2, h3⟩⟩ := h
  · exact .inl ⟨rfl, List.eq_nil_of_length_eq_zero h⟩
  · exact .inr ⟨tk, _, e, sz, rfl, h2, h3, by omega⟩
theorem Yg.young {α : Type} {c : α → List AL} {sz : Nat} {S : St} {x : AL} {l : List α} (h : Yg c sz S x l) : ∀ t, t ∈ x.tk.toList → t ∈ S.young ∧ (S.tok t).isSome = true := by
  rcases h with ⟨rfl, _⟩ | ⟨tk, m, e, s, rfl, h2, h3, _⟩
  · intro t ht; simp [AL.tk] at ht
  · intro t ht
    simp [AL.tk] at ht
    subst ht
    exact ⟨h3, by rw [h2]; rfl⟩
theorem _root_.Go.Den.ConB.useY {w0 : World} {f : FuncId} {args : List AV} {i : Nat} {cs : List AL} {r : AV → Prop} (h : CONB f args i cs r) (S : St) (L : Lo) {t : TypeId} (hb : (S.boxes ++ L)[i]? = some (t, cs)) :
    (realHk Tryz.prog w0 TY).tot f args S L fun v S' => ExtO S S' ∧ r v := h.useO (T := tabOf Tryz.prog) (T' := TY) rfl S L hb
theorem _root_.Go.Den.Con.useY {w0 : World} {f : FuncId} {args : List AV} {r : AV → Prop} (h : CON w0 f args r) (S : St) (L : Lo) :
    (realHk Tryz.prog w0 TY).tot f args S L fun v S' => ExtO S S' ∧ r v := Con.useO (T := tabOf Tryz.prog) (T' := TY) rfl h S L
theorem _root_.Go.Den.ConR.useY {w0 : World} {f : FuncId} {args : List AV} {r : Nat → AV → St → Prop} (h : CONR f args r) (S : St) (L : Lo) :
    (realHk Tryz.prog w0 TY).tot f args S L fun v S' => ExtO S S' ∧ r S.toks.length v S' := h.useO (T := tabOf Tryz.prog) (T' := TY) rfl S L
end Go.Proofs.YtkdickfiifpblaaGreatDoor.D
namespace Go.Proofs.YtkdickfiifpblaaGreatDoor.D
open Go Go.Den Go.Proofs
set_option maxRecDepth 100000
theorem clrs_rep {p : Nat → Bool} {tk : Nat} {zs : List AL} (h : clrs p tk zs = true) : ∀ k, clrs p tk (List.replicate k zs).flatten = true
  | 0 => rfl
  | k + 1 => by rw [List.replicate_succ, List.flatten_cons, clrs_append, h, clrs_rep h k]; rfl
theorem spl_take (xs : List AL) (off : Nat) (vs : List AL) : (spl xs off vs).take off = xs.take off := by
  apply List.ext_getElem?
  intro i
  rw [List.getElem?_take, List.getElem?_take]
  split
  · rename_i hi
    by_cases h : i < xs.length
    · rw [spl_get _ _ _ _ h, if_neg (by omega)]
    · rw [List.getElem?_eq_none (by rw [spl_len]; omega), List.getElem?_eq_none (by omega)]
  · rfl
theorem low_of {S S' : St} {y : Nat} {hy : List Nat} (hE : ExtO { S with young := hy } S') {t : TypeId} {cs : List AL} (hbx : S.boxes[y]? = some (t, cs)) : y < S'.boxes.length := by
  rw [hE.ext.1]
  exact (List.getElem?_eq_some_iff.1 hbx).1
def iDel {α : Type} (S0 : St) (tk : Nat) (k : AV) (p : α → Bool) (l : List α) (c : α → List AL) : Nat → KE := fun mm env S' L => L = [] ∧ ExtO S0 S' ∧ ∃ i : Nat, env = [(6, .v (int i)), (5, .v (int (dj p l i))), (4, .v (.one .nilsl)), (0, .v (.one (.sl (some tk) l.length ((dcur p l i).flatMap c)))), (1, .v k)] ∧ i ≤ l.length ∧ mm = l.length - i
theorem likeY' {ts : List TypeId} {vs : List AV} (h : likeVs (tabOf Tryz.prog) ts vs = true) : likeVs TY ts vs = true := by rw [likeVs_desc (T := tabOf Tryz.prog) (T' := TY) rfl]; exact h
theorem Del20b {w0 : World} {S : St} {tk m e s : Nat} (ht : S.tok tk = some (m, e, s)) (hy : tk ∈ S.young) (hb : clrB S tk S.boxes) {l : List BA} (hl : l.length * 1 ≤ m) (hn : l.length ≤ 1000000) :
    TotY Tryz.prog w0 [tk] 20 [.one (.sl (some tk) l.length (l.flatMap Rq)), .clo 22 []] S fun v S' => Ext S S' ∧ v = .one (.sl (some tk) (l.filter fun a => !(fun s : BA => decide (s = undB)) a).length ((l.filter fun a => !(fun s : BA => decide (s = undB)) a).flatMap Rq)) := by
  generalize hp' : (fun s : BA => decide (s = undB)) = p
  have hY : ∀ t, t ∈ [tk] → t ∈ S.young ∧ (S.tok t).isSome = true := fun t h => by rw [List.mem_singleton.1 h]; exact ⟨hy, by rw [ht]; rfl⟩
  refine (TotY.of_wFn2 hTY hmo (nov := cfDel) (plans := np) (keep := false) hY (Q := fun v S' => ExtO { S with young := [tk] } S' ∧ v = .one (.sl (some tk) (l.filter fun a => !p a).length ((l.filter fun a => !p a).flatMap Rq))) ?_).mono ?_
  · rw [v20b]
    have hx : Vw Rq (.sl (some tk) l.length (l.flatMap Rq)) l := .inr ⟨_, rfl⟩
    refine ⟨rfl, _, (Index50b_c hx hn).useY _ _, fun n S1 hR => ?_⟩
    obtain ⟨hE, hv⟩ := hR
    rw [hp'] at hv
    rcases hv with ⟨i0, a0, he, ha0, hp0, hno⟩ | ⟨he, hno⟩
    · cases he
      have hi0 := (List.getElem?_eq_some_iff.1 ha0).1
      have hd := dcur_start ha0 hp0 hno
      refine ⟨fun h => absurd (eq_of_beq h) (by omega), fun _ => ⟨by unfold in64; omega, [6, 5, 4, 0, 1], iDel { S with young := [tk] } tk (.clo 22 []) p l Rq, l.length - (i0 + 1), ⟨rfl, hE, i0 + 1, by rw [hd.1, hd.2]; rfl, hi0, rfl⟩, ?_⟩⟩
      rintro mm env S1 L1 ⟨rfl, hE, i, rfl, hi, rfl⟩
      refine WSem.of hTY hmo (nov := cfDel) (plans := np) (f := 1000) ?_
      rw [b20b_0]
      have hj := dj_le p l i
      refine ⟨l.length, rfl, fun hlt => ?_, fun hge => ?_⟩
      · have hlt := lt_of_dec hlt
        obtain ⟨a, ha⟩ : ∃ a, l[i]? = some a := ⟨_, List.getElem?_eq_getElem hlt⟩
        have hvw : Vw Rq (.sl (some tk) l.length ((dcur p l i).flatMap Rq)) (dcur p l i) := .inr ⟨_, by rw [dcur_len]⟩
        refine rd1 hvw (dcur_get p l ha) ?_
        refine ⟨_, (f22_c a).useY S1 _, fun b S2 hR => ?_⟩
        obtain ⟨hE2, he⟩ := hR
        cases he
        have hE2 := hE.trans hE2
        refine ⟨fun hbb => ?_, fun hbb => ?_⟩
        · have hp : p a = false := by rw [← hp']; simpa using hbb
          have e1 : AL.put S2.has tk (((dj p l i : Nat) : Int).toNat * 1) (Rq a) (.sl (some tk) l.length ((dcur p l i).flatMap Rq)) = .sl (some tk) l.length ((dcur p l (i + 1)).flatMap Rq) := by
            show AL.put S2.has tk (dj p l i * 1) (Rq a) _ = _
            rw [AL.put, if_pos rfl, if_pos (PlC.Rq.flat _ _ _), dcur_yes ha hp Rq 1 Rq_len]
          refine ⟨tk, l.length, _, rfl, by omega, by omega, rfl, m, e, s, hE2.ext.2.tok _ _ ht, hE2.ext.2.yng _ List.mem_cons_self, ?_, rfl, by unfold in64; omega, by unfold in64; omega, ?_⟩
          · show dj p l i * 1 + 1 ≤ m
            omega
          · rw [St.put_clr (hE2.clrB hb)]
            refine loopK.again (L' := []) (m' := l.length - (i + 1)) ⟨trivial, trivial⟩ rfl (by omega) ⟨rfl, hE2, i + 1, ?_, hlt, rfl⟩
            show [(6, _), (5, _), (4, _), (0, WV.v (.one (AL.put S2.has tk (((dj p l i : Nat) : Int).toNat * 1) (Rq a) (.sl (some tk) l.length ((dcur p l i).flatMap Rq))))), (1, _)] = _
            rw [e1, dj_yes ha hp]
            rfl
        · have hp : p a = true := by rw [← hp']; simpa using hbb
          refine ⟨by unfold in64; omega, loopK.again (L' := []) (m' := l.length - (i + 1)) ⟨trivial, trivial⟩ rfl (by omega) ⟨rfl, hE2, i + 1, ?_, hlt, rfl⟩⟩
          rw [(dj_no ha hp).1, (dj_no ha hp).2]
          rfl
      · have hge := ge_of_dec hge
        have hj2 := dj_len p l i
        refine loopK.exit (L' := []) ⟨trivial, trivial⟩ rfl (kont.of hTY hmo (nov := cfDel) (plans := np) (f := 1000) ?_)
        rw [x20b_0]
        refine ⟨tk, l.length, _, rfl, by omega, by omega, rfl, m, e, s, hE.ext.2.tok _ _ ht, hE.ext.2.yng _ List.mem_cons_self, ?_, clrs_rep rfl _, tk, l.length, spl ((dcur p l i).flatMap Rq) (((dj p l i : Nat) : Int).toNat * 1) (List.replicate (l.length - ((dj p l i : Nat) : Int).toNat) [AL.str ⟨⟨[]⟩⟩]).flatten, ?_, by omega, by omega, rfl, ?_⟩
        rotate_left
        · rw [AL.put, if_pos rfl, if_pos (PlC.Rq.flat _ _ _)]
        · rw [St.put_clr (hE.clrB hb)]
          refine ⟨hE, ?_⟩
          have e1 : (spl ((dcur p l i).flatMap Rq) (((dj p l i : Nat) : Int).toNat * 1) (List.replicate (l.length - ((dj p l i : Nat) : Int).toNat) [AL.str ⟨⟨[]⟩⟩]).flatten).take (((dj p l i : Nat) : Int).toNat * 1) = (l.filter fun a => !p a).flatMap Rq := by
            show (spl _ (dj p l i * 1) _).take (dj p l i * 1) = _
            rw [spl_take, (dcur_all hge).1, (dcur_all hge).2, flat_head Rq 1 Rq_len]
          rw [e1]
          show AV.one (.sl (some tk) (dj p l i) _) = _
          rw [(dcur_all hge).1]
        · show dj p l i * 1 + (l.length - dj p l i) * 1 ≤ m
          omega
    · cases he
      refine ⟨fun _ => ⟨rfl, hE, ?_⟩, fun h => absurd h (by decide)⟩
      rw [List.filter_eq_self.2 (fun a ha => by rw [hno a ha]; rfl)]
  · rintro v S'' ⟨S', rfl, hE, hv⟩
    exact ⟨⟨hE.ext.1, ⟨fun t x h => hE.ext.2.tok t x h, hE.ext.2.len, fun t h => List.mem_append_right _ h⟩⟩, hv⟩
theorem Del20c {w0 : World} {S : St} {tk m e s : Nat} (ht : S.tok tk = some (m, e, s)) (hy : tk ∈ S.young) (hb : clrB S tk S.boxes) {l : List BA} (hl : l.length * 1 ≤ m) (hn : l.length ≤ 1000000) {y : AL} {ns : List BA} (hys : Vw Rq y ns) (hns : ns.length ≤ 1000000) {c : Nat} {t : TypeId} (hbx : S.boxes[c]? = some (t, [y])) :
    TotY Tryz.prog w0 [tk] 20 [.one (.sl (some tk) l.length (l.flatMap Rq)), .clo 52 [.ptr c 0]] S fun v S' => Ext S S' ∧ v = .one (.sl (some tk) (l.filter fun a => !(fun s : BA => memB s ns) a).length ((l.filter fun a => !(fun s : BA => memB s ns) a).flatMap Rq)) := by
  generalize hp' : (fun s : BA => memB s ns) = p
  have hY : ∀ t, t ∈ [tk] → t ∈ S.young ∧ (S.tok t).isSome = true := fun t h => by rw [List.mem_singleton.1 h]; exact ⟨hy, by rw [ht]; rfl⟩
  refine (TotY.of_wFn2 hTY hmo (nov := cfDel) (plans := np) (keep := false) hY (Q := fun v S' => ExtO { S with young := [tk] } S' ∧ v = .one (.sl (some tk) (l.filter fun a => !p a).length ((l.filter fun a => !p a).flatMap Rq))) ?_).mono ?_
  · rw [v20c]
    have hx : Vw Rq (.sl (some tk) l.length (l.flatMap Rq)) l := .inr ⟨_, rfl⟩
    refine ⟨rfl, _, (Index50c_c hx hn hys hns c).useY _ [] (by rw [List.append_nil]; exact hbx), fun n S1 hR => ?_⟩
    obtain ⟨hE, hv⟩ := hR
    rw [hp'] at hv
    rcases hv with ⟨i0, a0, he, ha0, hp0, hno⟩ | ⟨he, hno⟩
    · cases he
      have hi0 := (List.getElem?_eq_some_iff.1 ha0).1
      have hd := dcur_start ha0 hp0 hno
      refine ⟨fun h => absurd (eq_of_beq h) (by omega), fun _ => ⟨by unfold in64; omega, [6, 5, 4, 0, 1], iDel { S with young := [tk] } tk (.clo 52 [.ptr c 0]) p l Rq, l.length - (i0 + 1), ⟨rfl, hE, i0 + 1, by rw [hd.1, hd.2]; rfl, hi0, rfl⟩, ?_⟩⟩
      rintro mm env S1 L1 ⟨rfl, hE, i, rfl, hi, rfl⟩
      refine WSem.of hTY hmo (nov := cfDel) (plans := np) (f := 1000) ?_
      rw [b20c_0]
      have hj := dj_le p l i
      refine ⟨l.length, rfl, fun hlt => ?_, fun hge => ?_⟩
      · have hlt := lt_of_dec hlt
        obtain ⟨a, ha⟩ : ∃ a, l[i]? = some a := ⟨_, List.getElem?_eq_getElem hlt⟩
        have hvw : Vw Rq (.sl (some tk) l.length ((dcur p l i).flatMap Rq)) (dcur p l i) := .inr ⟨_, by rw [dcur_len]⟩
        refine rd1 hvw (dcur_get p l ha) ?_
        refine ⟨_, (f52_c hys hns a c).useY S1 [] (by rw [List.append_nil, hE.ext.1]; exact hbx), fun b S2 hR => ?_⟩
        obtain ⟨hE2, he⟩ := hR
        cases he
        have hE2 := hE.trans hE2
        refine ⟨fun hbb => ?_, fun hbb => ?_⟩
        · have hp : p a = false := by rw [← hp']; simpa using hbb
          have e1 : AL.put S2.has tk (((dj p l i : Nat) : Int).toNat * 1) (Rq a) (.sl (some tk) l.length ((dcur p l i).flatMap Rq)) = .sl (some tk) l.length ((dcur p l (i + 1)).flatMap Rq) := by
            show AL.put S2.has tk (dj p l i * 1) (Rq a) _ = _
            rw [AL.put, if_pos rfl, if_pos (PlC.Rq.flat _ _ _), dcur_yes ha hp Rq 1 Rq_len]
          refine ⟨tk, l.length, _, rfl, by omega, by omega, rfl, m, e, s, hE2.ext.2.tok _ _ ht, hE2.ext.2.yng _ List.mem_cons_self, ?_, rfl, by unfold in64; omega, by unfold in64; omega, ?_⟩
          · show dj p l i * 1 + 1 ≤ m
            omega
          · rw [St.put_clr (hE2.clrB hb)]
            refine loopK.again (L' := []) (m' := l.length - (i + 1)) ⟨⟨low_of hE2 hbx, trivial⟩, trivial⟩ rfl (by omega) ⟨rfl, hE2, i + 1, ?_, hlt, rfl⟩
            show [(6, _), (5, _), (4, _), (0, WV.v (.one (AL.put S2.has tk (((dj p l i : Nat) : Int).toNat * 1) (Rq a) (.sl (some tk) l.length ((dcur p l i).flatMap Rq))))), (1, _)] = _
            rw [e1, dj_yes ha hp]
            rfl
        · have hp : p a = true := by rw [← hp']; simpa using hbb
          refine ⟨by unfold in64; omega, loopK.again (L' := []) (m' := l.length - (i + 1)) ⟨⟨low_of hE2 hbx, trivial⟩, trivial⟩ rfl (by omega) ⟨rfl, hE2, i + 1, ?_, hlt, rfl⟩⟩
          rw [(dj_no ha hp).1, (dj_no ha hp).2]
          rfl
      · have hge := ge_of_dec hge
        have hj2 := dj_len p l i
        refine loopK.exit (L' := []) ⟨⟨low_of hE hbx, trivial⟩, trivial⟩ rfl (kont.of hTY hmo (nov := cfDel) (plans := np) (f := 1000) ?_)
        rw [x20c_0]
        refine ⟨tk, l.length, _, rfl, by omega, by omega, rfl, m, e, s, hE.ext.2.tok _ _ ht, hE.ext.2.yng _ List.mem_cons_self, ?_, clrs_rep rfl _, tk, l.length, spl ((dcur p l i).flatMap Rq) (((dj p l i : Nat) : Int).toNat * 1) (List.replicate (l.length - ((dj p l i : Nat) : Int).toNat) [AL.str ⟨⟨[]⟩⟩]).flatten, ?_, by omega, by omega, rfl, ?_⟩
        rotate_left
        · rw [AL.put, if_pos rfl, if_pos (PlC.Rq.flat _ _ _)]
        · rw [St.put_clr (hE.clrB hb)]
          refine ⟨hE, ?_⟩
          have e1 : (spl ((dcur p l i).flatMap Rq) (((dj p l i : Nat) : Int).toNat * 1) (List.replicate (l.length - ((dj p l i : Nat) : Int).toNat) [AL.str ⟨⟨[]⟩⟩]).flatten).take (((dj p l i : Nat) : Int).toNat * 1) = (l.filter fun a => !p a).flatMap Rq := by
            show (spl _ (dj p l i * 1) _).take (dj p l i * 1) = _
            rw [spl_take, (dcur_all hge).1, (dcur_all hge).2, flat_head Rq 1 Rq_len]
          rw [e1]
          show AV.one (.sl (some tk) (dj p l i) _) = _
          rw [(dcur_all hge).1]
        · show dj p l i * 1 + (l.length - dj p l i) * 1 ≤ m
          omega
    · cases he
      refine ⟨fun _ => ⟨rfl, hE, ?_⟩, fun h => absurd h (by decide)⟩
      rw [List.filter_eq_self.2 (fun a ha => by rw [hno a ha]; rfl)]
  · rintro v S'' ⟨S', rfl, hE, hv⟩
    exact ⟨⟨hE.ext.1, ⟨fun t x h => hE.ext.2.tok t x h, hE.ext.2.len, fun t h => List.mem_append_right _ h⟩⟩, hv⟩
theorem Del28d {w0 : World} {S : St} {tk m e s : Nat} (ht : S.tok tk = some (m, e, s)) (hy : tk ∈ S.young) (hb : clrB S tk S.boxes) {l : List Im} (hl : l.length * 3 ≤ m) (hn : l.length ≤ 1000000) {y : AL} {ns : List BA} (hys : Vw Rq y ns) (hns : ns.length ≤ 1000000) {c : Nat} {t : TypeId} (hbx : S.boxes[c]? = some (t, [y])) :
    TotY Tryz.prog w0 [tk] 28 [.one (.sl (some tk) l.length (l.flatMap Im.cells)), .clo 29 [.ptr c 0]] S fun v S' => Ext S S' ∧ v = .one (.sl (some tk) (l.filter fun a => !(fun a : Im => memB a.loc ns) a).length ((l.filter fun a => !(fun a : Im => memB a.loc ns) a).flatMap Im.cells)) := by
  generalize hp' : (fun a : Im => memB a.loc ns) = p
  have hY : ∀ t, t ∈ [tk] → t ∈ S.young ∧ (S.tok t).isSome = true := fun t h => by rw [List.mem_singleton.1 h]; exact ⟨hy, by rw [ht]; rfl⟩
  refine (TotY.of_wFn2 hTY hmo (nov := cfDel) (plans := np) (keep := false) hY (Q := fun v S' => ExtO { S with young := [tk] } S' ∧ v = .one (.sl (some tk) (l.filter fun a => !p a).length ((l.filter fun a => !p a).flatMap Im.cells))) ?_).mono ?_
  · rw [v28d]
    have hx : Vw Im.cells (.sl (some tk) l.length (l.flatMap Im.cells)) l := .inr ⟨_, rfl⟩
    refine ⟨rfl, _, (Index47d_c hx hn hys hns c).useY _ [] (by rw [List.append_nil]; exact hbx), fun n S1 hR => ?_⟩
    obtain ⟨hE, hv⟩ := hR
    rw [hp'] at hv
    rcases hv with ⟨i0, a0, he, ha0, hp0, hno⟩ | ⟨he, hno⟩
    · cases he
      have hi0 := (List.getElem?_eq_some_iff.1 ha0).1
      have hd := dcur_start ha0 hp0 hno
      refine ⟨fun h => absurd (eq_of_beq h) (by omega), fun _ => ⟨by unfold in64; omega, [6, 5, 4, 0, 1], iDel { S with young := [tk] } tk (.clo 29 [.ptr c 0]) p l Im.cells, l.length - (i0 + 1), ⟨rfl, hE, i0 + 1, by rw [hd.1, hd.2]; rfl, hi0, rfl⟩, ?_⟩⟩
      rintro mm env S1 L1 ⟨rfl, hE, i, rfl, hi, rfl⟩
      refine WSem.of hTY hmo (nov := cfDel) (plans := np) (f := 1000) ?_
      rw [b28d_0]
      have hj := dj_le p l i
      refine ⟨l.length, rfl, fun hlt => ?_, fun hge => ?_⟩
      · have hlt := lt_of_dec hlt
        obtain ⟨a, ha⟩ : ∃ a, l[i]? = some a := ⟨_, List.getElem?_eq_getElem hlt⟩
        have hvw : Vw Im.cells (.sl (some tk) l.length ((dcur p l i).flatMap Im.cells)) (dcur p l i) := .inr ⟨_, by rw [dcur_len]⟩
        refine imAt hvw (dcur_get p l ha) ?_
        refine ⟨_, (f29_c hys hns a.spec a.from_ a.loc c).useY S1 _ (t := t) (by rw [List.getElem?_append_left (low_of hE hbx), hE.ext.1]; exact hbx), fun b S2 hR => ?_⟩
        obtain ⟨hE2, he⟩ := hR
        cases he
        have hE2 := hE.trans hE2
        refine ⟨fun hbb => ?_, fun hbb => ?_⟩
        · have hp : p a = false := by rw [← hp']; simpa using hbb
          have e1 : AL.put S2.has tk (((dj p l i : Nat) : Int).toNat * 3) (Im.cells a) (.sl (some tk) l.length ((dcur p l i).flatMap Im.cells)) = .sl (some tk) l.length ((dcur p l (i + 1)).flatMap Im.cells) := by
            show AL.put S2.has tk (dj p l i * 3) (Im.cells a) _ = _
            rw [AL.put, if_pos rfl, if_pos (PlC.Im.flat _ _ _), dcur_yes ha hp Im.cells 3 Im_len]
          refine ⟨tk, l.length, _, rfl, by omega, by omega, rfl, m, e, s, hE2.ext.2.tok _ _ ht, hE2.ext.2.yng _ List.mem_cons_self, ?_, rfl, by unfold in64; omega, by unfold in64; omega, ?_⟩
          · show dj p l i * 3 + 3 ≤ m
            omega
          · rw [St.put_clr (hE2.clrB hb)]
            refine loopK.again (L' := []) (m' := l.length - (i + 1)) ⟨⟨low_of hE2 hbx, trivial⟩, trivial⟩ rfl (by omega) ⟨rfl, hE2, i + 1, ?_, hlt, rfl⟩
            show [(6, _), (5, _), (4, _), (0, WV.v (.one (AL.put S2.has tk (((dj p l i : Nat) : Int).toNat * 3) (Im.cells a) (.sl (some tk) l.length ((dcur p l i).flatMap Im.cells))))), (1, _)] = _
            rw [e1, dj_yes ha hp]
            rfl
        · have hp : p a = true := by rw [← hp']; simpa using hbb
          refine ⟨by unfold in64; omega, loopK.again (L' := []) (m' := l.length - (i + 1)) ⟨⟨low_of hE2 hbx, trivial⟩, trivial⟩ rfl (by omega) ⟨rfl, hE2, i + 1, ?_, hlt, rfl⟩⟩
          rw [(dj_no ha hp).1, (dj_no ha hp).2]
          rfl
      · have hge := ge_of_dec hge
        have hj2 := dj_len p l i
        refine loopK.exit (L' := []) ⟨⟨low_of hE hbx, trivial⟩, trivial⟩ rfl (kont.of hTY hmo (nov := cfDel) (plans := np) (f := 1000) ?_)
        rw [x28d_0]
        refine ⟨tk, l.length, _, rfl, by omega, by omega, rfl, m, e, s, hE.ext.2.tok _ _ ht, hE.ext.2.yng _ List.mem_cons_self, ?_, clrs_rep rfl _, tk, l.length, spl ((dcur p l i).flatMap Im.cells) (((dj p l i : Nat) : Int).toNat * 3) (List.replicate (l.length - ((dj p l i : Nat) : Int).toNat) [AL.str ⟨⟨[]⟩⟩, AL.str ⟨⟨[]⟩⟩, AL.str ⟨⟨[]⟩⟩]).flatten, ?_, by omega, by omega, rfl, ?_⟩
        rotate_left
        · rw [AL.put, if_pos rfl, if_pos (PlC.Im.flat _ _ _)]
        · rw [St.put_clr (hE.clrB hb)]
          refine ⟨hE, ?_⟩
          have e1 : (spl ((dcur p l i).flatMap Im.cells) (((dj p l i : Nat) : Int).toNat * 3) (List.replicate (l.length - ((dj p l i : Nat) : Int).toNat) [AL.str ⟨⟨[]⟩⟩, AL.str ⟨⟨[]⟩⟩, AL.str ⟨⟨[]⟩⟩]).flatten).take (((dj p l i : Nat) : Int).toNat * 3) = (l.filter fun a => !p a).flatMap Im.cells := by
            show (spl _ (dj p l i * 3) _).take (dj p l i * 3) = _
            rw [spl_take, (dcur_all hge).1, (dcur_all hge).2, flat_head Im.cells 3 Im_len]
          rw [e1]
          show AV.one (.sl (some tk) (dj p l i) _) = _
          rw [(dcur_all hge).1]
        · show dj p l i * 3 + (l.length - dj p l i) * 3 ≤ m
          omega
    · cases he
      refine ⟨fun _ => ⟨rfl, hE, ?_⟩, fun h => absurd h (by decide)⟩
      rw [List.filter_eq_self.2 (fun a ha => by rw [hno a ha]; rfl)]
  · rintro v S'' ⟨S', rfl, hE, hv⟩
    exact ⟨⟨hE.ext.1, ⟨fun t x h => hE.ext.2.tok t x h, hE.ext.2.len, fun t h => List.mem_append_right _ h⟩⟩, hv⟩
theorem Del20b_nil {w0 : World} {S : St} :
    TotY Tryz.prog w0 [] 20 [.one .nilsl, .clo 22 []] S fun v S' => Ext S S' ∧ v = .one .nilsl := by
  refine (TotY.of_wFn2 hTY hmo (nov := cfDel) (plans := np) (keep := false) (fun t h => by cases h) (Q := fun v S' => ExtO { S with young := [] } S' ∧ v = .one .nilsl) ?_).mono ?_
  · rw [v20b]
    have hx : Vw Rq .nilsl [] := .inl ⟨rfl, rfl⟩
    refine ⟨rfl, _, (Index50b_c hx (by decide)).useY _ _, fun n S1 hR => ?_⟩
    obtain ⟨hE, hv⟩ := hR
    rcases hv with ⟨i0, a0, he, ha0, hp0, hno⟩ | ⟨he, hno⟩
    · simp at ha0
    · cases he
      exact ⟨fun _ => ⟨rfl, hE, rfl⟩, fun h => absurd h (by decide)⟩
  · rintro v S'' ⟨S', rfl, hE, hv⟩
    exact ⟨⟨hE.ext.1, ⟨fun t x h => hE.ext.2.tok t x h, hE.ext.2.len, fun t h => List.mem_append_right _ h⟩⟩, hv⟩
theorem Del20b_t {w0 : World} {S : St} {x : AL} {l : List BA} (h : Yg Rq 1 S x l) (hn : l.length ≤ 1000000) (hb : ∀ t, x.tk = some t → clrB S t S.boxes) :
    TotY Tryz.prog w0 x.tk.toList 20 [.one x, .clo 22 []] S fun v S1 => Ext S S1 ∧ ∃ y, v = .one y ∧ Yg Rq 1 S1 y (l.filter fun a => !(fun s : BA => decide (s = undB)) a) ∧ (∀ t, y.tk = some t → x.tk = some t) := by
  rcases h with ⟨rfl, rfl⟩ | ⟨tk, m, e, s, rfl, h2, h3, h4⟩
  · refine (Del20b_nil).mono ?_
    rintro v S' ⟨hE, rfl⟩
    exact ⟨hE, .nilsl, rfl, .inl ⟨rfl, rfl⟩, fun t ht => ht⟩
  · refine (Del20b h2 h3 (hb tk rfl) h4 hn).mono ?_
    rintro v S' ⟨hE, rfl⟩
    refine ⟨hE, _, rfl, .inr ⟨tk, m, e, s, rfl, hE.2.tok _ _ h2, hE.2.yng _ h3, ?_⟩, fun t ht => ht⟩
    exact Nat.le_trans (Nat.mul_le_mul_right _ (List.length_filter_le _ _)) h4
theorem Del20b_y {w0 : World} {S : St} {L : Lo} {x : AL} {l : List BA} (h : Yg Rq 1 S x l) (hn : l.length ≤ 1000000) (hb : ∀ t, x.tk = some t → clrB S t (S.boxes ++ L)) :
    (realHk Tryz.prog w0 TY).toty x.tk.toList 20 [.one x, .clo 22 []] [] S L fun v S1 => ExtO S S1 ∧ ∃ y, v = .one y ∧ Yg Rq 1 S1 y (l.filter fun a => !(fun s : BA => decide (s = undB)) a) ∧ (∀ t, y.tk = some t → x.tk = some t) := by
  refine toty_use h.young (r := fun v S1 => ∃ y, v = .one y ∧ Yg Rq 1 S1 y (l.filter fun a => !(fun s : BA => decide (s = undB)) a) ∧ (∀ t, y.tk = some t → x.tk = some t)) (Del20b_t (S := join S L) (h.same ⟨rfl, rfl⟩) hn hb) (fun v S S' hs ⟨y, h1, h2, h3⟩ => ⟨y, h1, h2.same hs, h3⟩) (fun v S ⟨y, h1, h2, h3⟩ => ?_)
  subst h1
  obtain ⟨fn, vs, g1, g2, g3⟩ := vsh (f := 20) (fn := Tryz.f20) (by kernel_rfl) (by kernel_rfl) h2.vw
  exact ⟨fn, vs, g1, g2, likeY' g3⟩
theorem Del20c_nil {w0 : World} {S : St} {y : AL} {ns : List BA} (hys : Vw Rq y ns) (hns : ns.length ≤ 1000000) {c : Nat} {t : TypeId} (hbx : S.boxes[c]? = some (t, [y])) :
    TotY Tryz.prog w0 [] 20 [.one .nilsl, .clo 52 [.ptr c 0]] S fun v S' => Ext S S' ∧ v = .one .nilsl := by
  refine (TotY.of_wFn2 hTY hmo (nov := cfDel) (plans := np) (keep := false) (fun t h => by cases h) (Q := fun v S' => ExtO { S with young := [] } S' ∧ v = .one .nilsl) ?_).mono ?_
  · rw [v20c]
    have hx : Vw Rq .nilsl [] := .inl ⟨rfl, rfl⟩
    refine ⟨rfl, _, (Index50c_c hx (by decide) hys hns c).useY _ [] (by rw [List.append_nil]; exact hbx), fun n S1 hR => ?_⟩
    obtain ⟨hE, hv⟩ := hR
    rcases hv with ⟨i0, a0, he, ha0, hp0, hno⟩ | ⟨he, hno⟩
    · simp at ha0
    · cases he
      exact ⟨fun _ => ⟨rfl, hE, rfl⟩, fun h => absurd h (by decide)⟩
  · rintro v S'' ⟨S', rfl, hE, hv⟩
    exact ⟨⟨hE.ext.1, ⟨fun t x h => hE.ext.2.tok t x h, hE.ext.2.len, fun t h => List.mem_append_right _ h⟩⟩, hv⟩
theorem Del20c_t {w0 : World} {S : St} {x : AL} {l : List BA} (h : Yg Rq 1 S x l) (hn : l.length ≤ 1000000) (hb : ∀ t, x.tk = some t → clrB S t S.boxes) {y : AL} {ns : List BA} (hys : Vw Rq y ns) (hns : ns.length ≤ 1000000) {c : Nat} {t : TypeId} (hbx : S.boxes[c]? = some (t, [y])) :
    TotY Tryz.prog w0 x.tk.toList 20 [.one x, .clo 52 [.ptr c 0]] S fun v S1 => Ext S S1 ∧ ∃ y, v = .one y ∧ Yg Rq 1 S1 y (l.filter fun a => !(fun s : BA => memB s ns) a) ∧ (∀ t, y.tk = some t → x.tk = some t) := by
  rcases h with ⟨rfl, rfl⟩ | ⟨tk, m, e, s, rfl, h2, h3, h4⟩
  · refine (Del20c_nil hys hns hbx).mono ?_
    rintro v S' ⟨hE, rfl⟩
    exact ⟨hE, .nilsl, rfl, .inl ⟨rfl, rfl⟩, fun t ht => ht⟩
  · refine (Del20c h2 h3 (hb tk rfl) h4 hn hys hns hbx).mono ?_
    rintro v S' ⟨hE, rfl⟩
    refine ⟨hE, _, rfl, .inr ⟨tk, m, e, s, rfl, hE.2.tok _ _ h2, hE.2.yng _ h3, ?_⟩, fun t ht => ht⟩
    exact Nat.le_trans (Nat.mul_le_mul_right _ (List.length_filter_le _ _)) h4
theorem Del20c_y {w0 : World} {S : St} {L : Lo} {x : AL} {l : List BA} (h : Yg Rq 1 S x l) (hn : l.length ≤ 1000000) (hb : ∀ t, x.tk = some t → clrB S t (S.boxes ++ L)) {y : AL} {ns : List BA} (hys : Vw Rq y ns) (hns : ns.length ≤ 1000000) {c : Nat} {t : TypeId} (hbx : (S.boxes ++ L)[c]? = some (t, [y])) :
    (realHk Tryz.prog w0 TY).toty x.tk.toList 20 [.one x, .clo 52 [.ptr c 0]] [] S L fun v S1 => ExtO S S1 ∧ ∃ y, v = .one y ∧ Yg Rq 1 S1 y (l.filter fun a => !(fun s : BA => memB s ns) a) ∧ (∀ t, y.tk = some t → x.tk = some t) := by
  refine toty_use h.young (r := fun v S1 => ∃ y, v = .one y ∧ Yg Rq 1 S1 y (l.filter fun a => !(fun s : BA => memB s ns) a) ∧ (∀ t, y.tk = some t → x.tk = some t)) (Del20c_t (S := join S L) (h.same ⟨rfl, rfl⟩) hn hb hys hns hbx) (fun v S S' hs ⟨y, h1, h2, h3⟩ => ⟨y, h1, h2.same hs, h3⟩) (fun v S ⟨y, h1, h2, h3⟩ => ?_)
  subst h1
  obtain ⟨fn, vs, g1, g2, g3⟩ := vsh (f := 20) (fn := Tryz.f20) (by kernel_rfl) (by kernel_rfl) h2.vw
  exact ⟨fn, vs, g1, g2, likeY' g3⟩
theorem Del28d_nil {w0 : World} {S : St} {y : AL} {ns : List BA} (hys : Vw Rq y ns) (hns : ns.length ≤ 1000000) {c : Nat} {t : TypeId} (hbx : S.boxes[c]? = some (t, [y])) :
    TotY Tryz.prog w0 [] 28 [.one .nilsl, .clo 29 [.ptr c 0]] S fun v S' => Ext S S' ∧ v = .one .nilsl := by
  refine (TotY.of_wFn2 hTY hmo (nov := cfDel) (plans := np) (keep := false) (fun t h => by cases h) (Q := fun v S' => ExtO { S with young := [] } S' ∧ v = .one .nilsl) ?_).mono ?_
  · rw [v28d]
    have hx : Vw Im.cells .nilsl [] := .inl ⟨rfl, rfl⟩
    refine ⟨rfl, _, (Index47d_c hx (by decide) hys hns c).useY _ [] (by rw [List.append_nil]; exact hbx), fun n S1 hR => ?_⟩
    obtain ⟨hE, hv⟩ := hR
    rcases hv with ⟨i0, a0, he, ha0, hp0, hno⟩ | ⟨he, hno⟩
    · simp at ha0
    · cases he
      exact ⟨fun _ => ⟨rfl, hE, rfl⟩, fun h => absurd h (by decide)⟩
  · rintro v S'' ⟨S', rfl, hE, hv⟩
    exact ⟨⟨hE.ext.1, ⟨fun t x h => hE.ext.2.tok t x h, hE.ext.2.len, fun t h => List.mem_append_right _ h⟩⟩, hv⟩
theorem Del28d_t {w0 : World} {S : St} {x : AL} {l : List Im} (h : Yg Im.cells 3 S x l) (hn : l.length ≤ 1000000) (hb : ∀ t, x.tk = some t → clrB S t S.boxes) {y : AL} {ns : List BA} (hys : Vw Rq y ns) (hns : ns.length ≤ 1000000) {c : Nat} {t : TypeId} (hbx : S.boxes[c]? = some (t, [y])) :
    TotY Tryz.prog w0 x.tk.toList 28 [.one x, .clo 29 [.ptr c 0]] S fun v S1 => Ext S S1 ∧ ∃ y, v = .one y ∧ Yg Im.cells 3 S1 y (l.filter fun a => !(fun a : Im => memB a.loc ns) a) ∧ (∀ t, y.tk = some t → x.tk = some t) := by
  rcases h with ⟨rfl, rfl⟩ | ⟨tk, m, e, s, rfl, h2, h3, h4⟩
  · refine (Del28d_nil hys hns hbx).mono ?_
    rintro v S' ⟨hE, rfl⟩
    exact ⟨hE, .nilsl, rfl, .inl ⟨rfl, rfl⟩, fun t ht => ht⟩
  · refine (Del28d h2 h3 (hb tk rfl) h4 hn hys hns hbx).mono ?_
    rintro v S' ⟨hE, rfl⟩
    refine ⟨hE, _, rfl, .inr ⟨tk, m, e, s, rfl, hE.2.tok _ _ h2, hE.2.yng _ h3, ?_⟩, fun t ht => ht⟩
    exact Nat.le_trans (Nat.mul_le_mul_right _ (List.length_filter_le _ _)) h4
end Go.Proofs.YtkdickfiifpblaaGreatDoor.D
namespace Go.Proofs.YtkdickfiifpblaaGreatDoor.D
open Go Go.Den Go.Proofs
set_option maxRecDepth 100000
def Cq {α : Type} (q : AL × List α) : List AL := [q.1]
def catL {α : Type} (ql : List (AL × List α)) : List α := ql.flatMap (·.2)
theorem catL_next {α : Type} {ql : List (AL × List α)} {i : Nat} {q : AL × List α} (h : ql[i]? = some q) : catL (ql.take (i + 1)) = catL (ql.take i) ++ q.2 := by
  unfold catL
  rw [take_next h, List.flatMap_append]
  simp
theorem catL_le {α : Type} (ql : List (AL × List α)) (i : Nat) : (catL (ql.take i)).length ≤ (catL ql).length := by
  conv => rhs; rw [← List.take_append_drop i ql]
  unfold catL
  rw [List.flatMap_append, List.length_append]
  omega
theorem rdQ {α : Type} {x : AL} {ql : List (AL × List α)} (h : Vw Cq x ql) {i : Nat} {q : AL × List α} (hq : ql[i]? = some q) {H : AL → Prop} (hH : H q.1) :
    ∃ tok n xs, x = .sl tok n xs ∧ 0 ≤ (i : Int) ∧ (i : Int) < (n : Int) ∧ (∃ x, true = true ∧ (List.drop ((i : Int).toNat * 1) xs)[0]? = some x) ∧ ∀ y : AL, (List.drop ((i : Int).toNat * 1) xs)[0]? = some y → H y := by
  have hi := (List.getElem?_eq_some_iff.1 hq).1
  obtain ⟨tok, a, g1, g2, g3, _⟩ := h.get (c := Cq) (sz := 1) (fun _ => rfl) hi
  rw [hq] at g2
  cases g2
  have g := g3 0 (by omega)
  refine ⟨tok, _, _, g1, by omega, by omega, ⟨q.1, rfl, g⟩, fun y hy => ?_⟩
  have e : some q.1 = some y := g.symm.trans hy
  cases e
  exact hH
theorem Vw.alt {α : Type} {c : α → List AL} {x : AL} {l : List α} (h : Vw c x l) : (x = .nilsl ∧ l.length = 0) ∨ ∃ tok, x = .sl tok l.length (l.flatMap c) := by
  rcases h with ⟨h1, h2⟩ | h
  · exact .inl ⟨h1, by rw [h2]; rfl⟩
  · exact .inr h
theorem Grew.app {S0 S S' : St} {x r : AL} (h : Grew S0 S x) (h3 : Bx S S') (h5 : ∀ u z, S.tok u = some z → x.tk ≠ some u → S'.tok u = some z) (h6 : r = x ∨ ∃ k, r.tk = some k ∧ S.toks.length ≤ k) : Grew S0 S' r := by
  refine ⟨h3.box.trans h.bx, fun t z ht => h5 t z (h.tok t z ht) (fun he => ?_), Nat.le_trans h.len h3.len, fun t ht => h3.yng t (h.yng t ht), fun t ht => ?_⟩
  · have := h.new t he
    have := tok_lt ht
    omega
  · rcases h6 with rfl | ⟨k, hk, hle⟩
    · exact h.new t ht
    · rw [hk] at ht
      cases ht
      have := h.len
      omega
def iCat1 {α : Type} (S : St) (x : AL) (ql : List (AL × List α)) : Nat → KE := fun m env S' L => L = [] ∧ Ext S S' ∧ ∃ i : Nat, env = [(11, .v (int i)), (10, .v (int ql.length)), (9, .v (.one x)), (3, .v (int (catL (ql.take i)).length)), (2, .v (.one .nilsl)), (0, .v (.one x))] ∧ i ≤ ql.length ∧ m = ql.length - i
def iCat2 {α : Type} (S : St) (x : AL) (ql : List (AL × List α)) (c : α → List AL) (e : TypeId) (sz : Nat) : Nat → KE := fun m env S' L => L = [] ∧ ∃ (i : Nat) (r : AL), env = [(27, .v (int i)), (26, .v (int ql.length)), (25, .v (.one x)), (6, .v (.one r)), (2, .v (.one .nilsl))] ∧ Grew S S' r ∧ i ≤ ql.length ∧ m = ql.length - i ∧ Row S' e sz r (catL (ql.take i)).length ((catL (ql.take i)).flatMap c)
theorem Grow69_c {n : Int} (h0 : 0 ≤ n) (h1 : n ≤ 1000000) : CONR 69 [.one .nilsl, int n] (rRowG Rq 9 1 []) := by
  refine ConR.of_iso (T' := TY) hTY hmo (nov := cfGrow) (plans := np) rfl (fun n v S hv => by obtain ⟨r, rfl, _⟩ := hv; exact ⟨[.one r], rfl, rfl⟩) ⟨Tryz.f69, by kernel_rfl, by kernel_rfl, by kernel_rfl⟩ rRowG.loc (rRowG.sh (fn := Tryz.f69) (by kernel_rfl) (by kernel_rfl)) (fun w0 k _ => ?_)
  rw [v69]
  refine ⟨rfl, fun h => absurd (of_decide_eq_true h) (by omega), fun _ => ⟨rfl, 0, rfl, by unfold in64; omega, by unfold in64; omega, fun h => ?_, fun _ => ⟨rfl, _, rfl, Row.nil _ _ _, fun t ht => by cases ht⟩⟩⟩
  have h := of_decide_eq_true h
  refine ⟨rfl, rfl, rfl, rfl, n.toNat, ?_, by omega, by omega, by omega, rfl, rfl, 0, rfl, k, n.toNat, [], ?_, by omega, by omega, rfl, ?_⟩
  · show AL.int .i64 (n - (0 - ((0 : Nat) : Int))) = .int .i64 (n.toNat : Int)
    congr 1
    omega
  · show AL.sl (some (iso k).toks.length) _ _ = _
    rw [show (iso k).toks.length = k by simp [iso]]
  · refine ⟨_, rfl, ?_, fun t ht => by cases ht; exact Nat.le_refl _⟩
    show Row _ 9 1 (.sl (some k) 0 (List.take (0 * 1) [])) 0 []
    have := Row.born (iso k) 9 1
    rw [show (iso k).toks.length = k by simp [iso]] at this
    exact this
theorem Concat43_c {x : AL} {ql : List (AL × List BA)} (h : Vw Cq x ql) (hv : ∀ q, q ∈ ql → Vw Rq q.1 q.2) (hn : ql.length ≤ 10) (hs : (catL ql).length ≤ 100000) : CONR 43 [.one x] (rRowG Rq 9 1 (catL ql)) := by
  refine ConR.of_fn (plans := np) hT hmo (nov := true) rRowG.loc (rRowG.sh (fn := Tryz.f43) (by kernel_rfl) (by kernel_rfl)) (fun w0 S => ?_)
  rw [v43]
  have hle := catL_le ql
  refine ⟨rfl, _, h.len, [11, 10, 9, 3, 2, 0], iCat1 S x ql, ql.length, ⟨rfl, Ext.refl S, 0, rfl, Nat.zero_le _, rfl⟩, ?_⟩
  rintro m env S1 L1 ⟨rfl, hE, i, rfl, hi, rfl⟩
  refine WSem.of hT hmo (nov := true) (plans := np) (f := 1000) ?_
  rw [b43_0]
  have hli := hle i
  refine ⟨fun hlt => ?_, fun hge => ?_⟩
  · have hlt := lt_of_dec hlt
    obtain ⟨q, hq⟩ : ∃ a, ql[i]? = some a := ⟨_, List.getElem?_eq_getElem hlt⟩
    refine rdQ h hq ⟨_, (hv q (List.mem_of_getElem? hq)).len, ?_⟩
    have hl2 := hle (i + 1)
    rw [catL_next hq, List.length_append] at hl2
    refine ⟨by unfold in64; omega, fun hb => absurd (of_decide_eq_true hb) (by omega), fun _ => ⟨by unfold in64; omega, loopK.again (L' := []) (m' := ql.length - (i + 1)) trivial rfl (by omega) ⟨rfl, hE, i + 1, ?_, hlt, rfl⟩⟩⟩
    rw [catL_next hq, List.length_append]
    rfl
  · have hge := ge_of_dec hge
    refine loopK.exit (L' := []) trivial rfl (kont.of hT hmo (nov := true) (plans := np) (f := 1000) ?_)
    rw [x43_0]
    refine ⟨_, (Grow69_c (n := ((catL (ql.take i)).length : Int)) (by omega) (by omega)).use S1 _, fun x6 S2 hR => ?_⟩
    obtain ⟨hE2, r0, he, hr0, hnew⟩ := hR
    cases he
    have hE2 := hE.trans hE2
    refine ⟨_, h.len, [27, 26, 25, 6, 2], iCat2 S x ql Rq 9 1, ql.length, ⟨rfl, 0, _, rfl, ⟨hE2.1, hE2.2.tok, hE2.2.len, hE2.2.yng, fun t ht => Nat.le_trans hE.2.len (hnew t ht)⟩, Nat.zero_le _, rfl, hr0⟩, ?_⟩
    rintro m env S3 L3 ⟨rfl, i, r, rfl, hG, hi, rfl, hr⟩
    refine WSem.of hT hmo (nov := true) (plans := np) (f := 1000) ?_
    rw [b43_1]
    have hli := hle i
    refine ⟨fun hlt => ?_, fun hge => ?_⟩
    · have hlt := lt_of_dec hlt
      obtain ⟨q, hq⟩ : ∃ a, ql[i]? = some a := ⟨_, List.getElem?_eq_getElem hlt⟩
      refine rdQ h hq ⟨rfl, ?_⟩
      have hl2 := hle (i + 1)
      rw [catL_next hq, List.length_append] at hl2
      obtain ⟨r2, S4, g1, g2, g3, g4, g5⟩ := hr.app (t := 24) T24 rfl T9 rfl (by decide) (flat_len Rq 1 Rq_len q.2) (hv q (List.mem_of_getElem? hq)).alt (by unfold maxLen; omega) (by show (_ + _) * 16 ≤ _; omega)
      refine ⟨r2, S4, g1, by unfold in64; omega, loopK.again (L' := []) (m' := ql.length - (i + 1)) trivial rfl (by omega) ⟨rfl, i + 1, r2, rfl, hG.app g3 g4 g5, hlt, rfl, ?_⟩⟩
      rw [catL_next hq, List.length_append, List.flatMap_append]
      exact g2
    · have hge := ge_of_dec hge
      refine loopK.exit (L' := []) trivial rfl (kont.of hT hmo (nov := true) (plans := np) (f := 1000) ?_)
      rw [x43_1]
      rw [take_all hge] at hr
      exact ⟨rfl, hG.ext, r, rfl, hr, hG.new⟩
theorem Grow53_c {n : Int} (h0 : 0 ≤ n) (h1 : n ≤ 1000000) : CONR 53 [.one .nilsl, int n] (rRowG Nt.cells 36 2 []) := by
  refine ConR.of_iso (T' := TY) hTY hmo (nov := cfGrow) (plans := np) rfl (fun n v S hv => by obtain ⟨r, rfl, _⟩ := hv; exact ⟨[.one r], rfl, rfl⟩) ⟨Tryz.f53, by kernel_rfl, by kernel_rfl, by kernel_rfl⟩ rRowG.loc (rRowG.sh (fn := Tryz.f53) (by kernel_rfl) (by kernel_rfl)) (fun w0 k _ => ?_)
  rw [v53]
  refine ⟨rfl, fun h => absurd (of_decide_eq_true h) (by omega), fun _ => ⟨rfl, 0, rfl, by unfold in64; omega, by unfold in64; omega, fun h => ?_, fun _ => ⟨rfl, _, rfl, Row.nil _ _ _, fun t ht => by cases ht⟩⟩⟩
  have h := of_decide_eq_true h
  refine ⟨rfl, rfl, rfl, rfl, n.toNat, ?_, by omega, by omega, by omega, rfl, rfl, 0, rfl, k, n.toNat, [], ?_, by omega, by omega, rfl, ?_⟩
  · show AL.int .i64 (n - (0 - ((0 : Nat) : Int))) = .int .i64 (n.toNat : Int)
    congr 1
    omega
  · show AL.sl (some (iso k).toks.length) _ _ = _
    rw [show (iso k).toks.length = k by simp [iso]]
  · refine ⟨_, rfl, ?_, fun t ht => by cases ht; exact Nat.le_refl _⟩
    show Row _ 36 2 (.sl (some k) 0 (List.take (0 * 2) [])) 0 []
    have := Row.born (iso k) 36 2
    rw [show (iso k).toks.length = k by simp [iso]] at this
    exact this
theorem Concat23_c {x : AL} {ql : List (AL × List Nt)} (h : Vw Cq x ql) (hv : ∀ q, q ∈ ql → Vw Nt.cells q.1 q.2) (hn : ql.length ≤ 10) (hs : (catL ql).length ≤ 100000) : CONR 23 [.one x] (rRowG Nt.cells 36 2 (catL ql)) := by
  refine ConR.of_fn (plans := np) hT hmo (nov := true) rRowG.loc (rRowG.sh (fn := Tryz.f23) (by kernel_rfl) (by kernel_rfl)) (fun w0 S => ?_)
  rw [v23]
  have hle := catL_le ql
  refine ⟨rfl, _, h.len, [11, 10, 9, 3, 2, 0], iCat1 S x ql, ql.length, ⟨rfl, Ext.refl S, 0, rfl, Nat.zero_le _, rfl⟩, ?_⟩
  rintro m env S1 L1 ⟨rfl, hE, i, rfl, hi, rfl⟩
  refine WSem.of hT hmo (nov := true) (plans := np) (f := 1000) ?_
  rw [b23_0]
  have hli := hle i
  refine ⟨fun hlt => ?_, fun hge => ?_⟩
  · have hlt := lt_of_dec hlt
    obtain ⟨q, hq⟩ : ∃ a, ql[i]? = some a := ⟨_, List.getElem?_eq_getElem hlt⟩
    refine rdQ h hq ⟨_, (hv q (List.mem_of_getElem? hq)).len, ?_⟩
    have hl2 := hle (i + 1)
    rw [catL_next hq, List.length_append] at hl2
    refine ⟨by unfold in64; omega, fun hb => absurd (of_decide_eq_true hb) (by omega), fun _ => ⟨by unfold in64; omega, loopK.again (L' := []) (m' := ql.length - (i + 1)) trivial rfl (by omega) ⟨rfl, hE, i + 1, ?_, hlt, rfl⟩⟩⟩
    rw [catL_next hq, List.length_append]
    rfl
  · have hge := ge_of_dec hge
    refine loopK.exit (L' := []) trivial rfl (kont.of hT hmo (nov := true) (plans := np) (f := 1000) ?_)
    rw [x23_0]
    refine ⟨_, (Grow53_c (n := ((catL (ql.take i)).length : Int)) (by omega) (by omega)).use S1 _, fun x6 S2 hR => ?_⟩
    obtain ⟨hE2, r0, he, hr0, hnew⟩ := hR
    cases he
    have hE2 := hE.trans hE2
    refine ⟨_, h.len, [27, 26, 25, 6, 2], iCat2 S x ql Nt.cells 36 2, ql.length, ⟨rfl, 0, _, rfl, ⟨hE2.1, hE2.2.tok, hE2.2.len, hE2.2.yng, fun t ht => Nat.le_trans hE.2.len (hnew t ht)⟩, Nat.zero_le _, rfl, hr0⟩, ?_⟩
    rintro m env S3 L3 ⟨rfl, i, r, rfl, hG, hi, rfl, hr⟩
    refine WSem.of hT hmo (nov := true) (plans := np) (f := 1000) ?_
    rw [b23_1]
    have hli := hle i
    refine ⟨fun hlt => ?_, fun hge => ?_⟩
    · have hlt := lt_of_dec hlt
      obtain ⟨q, hq⟩ : ∃ a, ql[i]? = some a := ⟨_, List.getElem?_eq_getElem hlt⟩
      refine rdQ h hq ⟨rfl, ?_⟩
      have hl2 := hle (i + 1)
      rw [catL_next hq, List.length_append] at hl2
      obtain ⟨r2, S4, g1, g2, g3, g4, g5⟩ := hr.app (t := 32) T32 rfl T36 rfl (by decide) (flat_len Nt.cells 2 Nt_len q.2) (hv q (List.mem_of_getElem? hq)).alt (by unfold maxLen; omega) (by show (_ + _) * 24 ≤ _; omega)
      refine ⟨r2, S4, g1, by unfold in64; omega, loopK.again (L' := []) (m' := ql.length - (i + 1)) trivial rfl (by omega) ⟨rfl, i + 1, r2, rfl, hG.app g3 g4 g5, hlt, rfl, ?_⟩⟩
      rw [catL_next hq, List.length_append, List.flatMap_append]
      exact g2
    · have hge := ge_of_dec hge
      refine loopK.exit (L' := []) trivial rfl (kont.of hT hmo (nov := true) (plans := np) (f := 1000) ?_)
      rw [x23_1]
      rw [take_all hge] at hr
      exact ⟨rfl, hG.ext, r, rfl, hr, hG.new⟩
end Go.Proofs.YtkdickfiifpblaaGreatDoor.D
