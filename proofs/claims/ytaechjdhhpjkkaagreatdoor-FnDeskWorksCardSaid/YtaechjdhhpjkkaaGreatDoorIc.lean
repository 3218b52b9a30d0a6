/- The library's functions, as a run takes them; what they want of the memory. -/
import Derived.Test.YtaechjdhhpjkkaaGreatDoorIb
import Derived.Test.YtaechjdhhpjkkaaGreatDoorShelf
import Derived.Laws.Externs
import Derived.WalkKit
import Derived.Lib.LaidTab
set_option linter.unusedVariables false
set_option linter.unusedSimpArgs false
namespace Go.Run
open Go Go.RowKit Go.Proofs
/-- The library's variables: the table of powers of ten, MaxLen, ErrSyntax. -/
structure OkW (w : World) : Prop where
  tab : Lib.TabIs Tryz.prog w "internal/strconv.uint64pow10" .u64 Lib.pow10Tab
  mx : ∃ m, w.cell? ⟨0, 0, none⟩ = some (.int .i64 m)
  er : ∃ ev, w.cell? ⟨4, 0, none⟩ = some ev ∧ (ev = .nilIface ∨ ∃ te pe, ev = .iface te pe)
theorem gPow : ∃ g, Tryz.prog.globalNamed "internal/strconv.uint64pow10" = some g ∧ g < 10 := by
  have h : (match Tryz.prog.globalNamed "internal/strconv.uint64pow10" with | some g => Nat.blt g 10 | none => false) = true := by kernel_rfl
  generalize Tryz.prog.globalNamed "internal/strconv.uint64pow10" = x at h
  cases x with
  | none => cases h
  | some g => exact ⟨g, rfl, blt_lt h⟩
theorem cell_keep {w w' : World} (hb : Below w.heap.size w w') {a : Addr} {v : Value} (hc : w.cell? a = some v) : w'.cell? a = some v := (hb.cell (World.block_lt_of_cell? w a hc)).trans hc
theorem OkW.below {w w' : World} (h : OkW w) (hb : Below w.heap.size w w') : OkW w' := by
  refine ⟨?_, ?_, ?_⟩
  · have h := h.tab
    obtain ⟨g, hg, _⟩ := gPow
    unfold Lib.TabIs World.var? at h ⊢
    rw [hg] at h ⊢
    simp only [Option.bind_some] at h ⊢
    have hlt : g < w.heap.size := by
      rcases Nat.lt_or_ge g w.heap.size with h' | h'
      · exact h'
      · rw [Array.getElem?_eq_none h'] at h; cases h
    rw [hb.block g hlt]
    exact h
  · obtain ⟨m, hm⟩ := h.mx
    exact ⟨m, cell_keep hb hm⟩
  · obtain ⟨ev, he, hk⟩ := h.er
    exact ⟨ev, cell_keep hb he, hk⟩
noncomputable section
def digB (k : Nat) : Nat := Bool.rec (Nat.add k 87) (Nat.add k 48) (Nat.blt k 10)
def digX : Int → Int | .ofNat k => .ofNat (digB k) | x => x
def digK : Int → Bool | .ofNat k => Nat.blt k 16 | _ => false
/-- A digit of sixteen. -/
def digP : Prim := fun vs h => match vs with
  | [.int .i64 x] => bt (digK x) (some (.int .u8 (digX x), h))
  | [.ivec .i64 l] => bt (allB digK l) (some (lanesI .u8 (l.map digX), h))
  | _ => none
def prim (f : FuncId) : Option Prim := match f with
  | 114 => some idxP | 36 => some cntP | 22 => some itoaP | 48 => some joinP | 17 => some replP | 56 => some insP | 53 => some atoiP | 9 => some digP
  | _ => none
end
section
variable {ln : Nat} {w0 : World} {U : Nat → Prop} {G : Gh} {h h' : Hp} {w : World}
theorem below_growN (w : World) (k : Nat) (os : Array Obj) : Below w.heap.size w (Go.Sort.grow (w.drewN k) os) := by
  have h1 : ∀ k, Below w.heap.size w (w.drewN k) := fun k => by
    induction k with
    | zero => exact Below.refl _ _
    | succ k ih => exact ih.drew
  refine (h1 k).trans ⟨rfl, rfl, rfl, by simp [Go.Sort.grow], fun i hi => ?_⟩
  exact Go.Sort.heap_grow_old _ os (Nat.lt_of_lt_of_le hi (h1 k).size)
theorem below_bytes (w : World) (e : TypeId) (s : ByteArray) : Below w.heap.size w (Lib.bytesWorld w e s) := by
  have h : Lib.bytesWorld w e s = w.drew.alloc (.cells (Lib.bytesCells w e s) e ((Lib.bytesCells w e s).size, (Lib.bytesCells w e s).size + 1)) := freeze_new w.drew (Lib.bytesCells w e s) e
  rw [h]
  exact (Below.refl _ w).drew.alloc (Nat.le_refl _) _
theorem noNum (f : FuncId) (g : Func) (hf : Tryz.prog.funcs[f]? = some g) : (g.name == "runtime.NumGoroutine") = false := by
  have h : (Tryz.prog.funcs.toList.all fun g => !(g.name == "runtime.NumGoroutine")) = true := by kernel_rfl
  have := List.all_eq_true.1 h g (List.mem_of_getElem? (by simpa using hf))
  simpa using this
theorem notMem {c : Nat} {l : List Nat} (h : bnot (memB c l) = true) : c ∉ l := fun hm => by
  rw [memB_iff hm] at h
  cases h
theorem insP_ok : PrimOk Tryz.prog ln w0 56 insP := by
  intro U G h w args vs v h' k hA e
  have rest : ∀ args, RepA ln G args vs → (ob (fOf Tryz.prog msk 56) fun fn => callB (eOf Tryz.prog) (fun _ _ _ => none) fn args h) = some (v, h') → Does Tryz.prog 56 vs.toArray w fun vr w' => ∃ H, G.Le H ∧ RepV ln H v vr ∧ HR ln w0 U H h' w' := fun args hA e => by
    obtain ⟨fn, hfn, e⟩ := ob_some e
    exact callB_ok eOf_ok (fun _ _ _ _ _ _ _ _ _ _ _ e => by cases e) (by kernel_rfl) (fOf_ok noNum _ _ hfn) k hA e
  unfold insP at e
  split at e
  · rename_i b c o
    obtain ⟨x, hx, e⟩ := ob_some e
    obtain ⟨z, hz, e⟩ := ob_some e
    obtain ⟨ho, e⟩ := bt_some e
    obtain ⟨ha, e⟩ := bt_some e
    obtain ⟨ht, e⟩ := bt_some e
    obtain ⟨hs, e⟩ := bt_some e
    obtain ⟨hzt, e⟩ := bt_some e
    obtain ⟨hbc, e⟩ := bt_some e
    have hc : ∃ c1 c2, x.cells = [c1, c2] := by
      generalize x.cells = l at e
      match l, e with
      | [c1, c2], _ => exact ⟨c1, c2, rfl⟩
    obtain ⟨c1, c2, hc⟩ := hc
    rw [hc] at e
    exact .inl ⟨⟨Tryz.f56, Tryz.func56, by kernel_rfl, by kernel_rfl⟩, (ins1_ok k hx hz hc ho (notMem (band_true ha).1) (fun a hm => blt_lt (allB_all _ (band_true ha).2 a hm)) (beqN ht) (beqN hs) (beqN hzt) (bnot_ne hbc) e hA).mono fun e w' ⟨vr, he, hR⟩ => ⟨vr, he, hR⟩⟩
  · exact rest _ hA e
theorem f9_calls : ∀ (k : Nat), k < 16 → ∀ w : World, Calls Tryz.prog 9 #[.int .i64 k] w fun e w' => e = .returned (.int .u8 (digB k)) ∧ w' = w := by
  intro k hk w
  match k, hk with
  | 0, _ => go_enter Tryz.func9, Tryz.ntmps9; go_wp2; go_ret; exact ⟨rfl, rfl⟩
  | 1, _ => go_enter Tryz.func9, Tryz.ntmps9; go_wp2; go_ret; exact ⟨rfl, rfl⟩
  | 2, _ => go_enter Tryz.func9, Tryz.ntmps9; go_wp2; go_ret; exact ⟨rfl, rfl⟩
  | 3, _ => go_enter Tryz.func9, Tryz.ntmps9; go_wp2; go_ret; exact ⟨rfl, rfl⟩
  | 4, _ => go_enter Tryz.func9, Tryz.ntmps9; go_wp2; go_ret; exact ⟨rfl, rfl⟩
  | 5, _ => go_enter Tryz.func9, Tryz.ntmps9; go_wp2; go_ret; exact ⟨rfl, rfl⟩
  | 6, _ => go_enter Tryz.func9, Tryz.ntmps9; go_wp2; go_ret; exact ⟨rfl, rfl⟩
  | 7, _ => go_enter Tryz.func9, Tryz.ntmps9; go_wp2; go_ret; exact ⟨rfl, rfl⟩
  | 8, _ => go_enter Tryz.func9, Tryz.ntmps9; go_wp2; go_ret; exact ⟨rfl, rfl⟩
  | 9, _ => go_enter Tryz.func9, Tryz.ntmps9; go_wp2; go_ret; exact ⟨rfl, rfl⟩
  | 10, _ => go_enter Tryz.func9, Tryz.ntmps9; go_wp2; go_ret; exact ⟨rfl, rfl⟩
  | 11, _ => go_enter Tryz.func9, Tryz.ntmps9; go_wp2; go_ret; exact ⟨rfl, rfl⟩
  | 12, _ => go_enter Tryz.func9, Tryz.ntmps9; go_wp2; go_ret; exact ⟨rfl, rfl⟩
  | 13, _ => go_enter Tryz.func9, Tryz.ntmps9; go_wp2; go_ret; exact ⟨rfl, rfl⟩
  | 14, _ => go_enter Tryz.func9, Tryz.ntmps9; go_wp2; go_ret; exact ⟨rfl, rfl⟩
  | 15, _ => go_enter Tryz.func9, Tryz.ntmps9; go_wp2; go_ret; exact ⟨rfl, rfl⟩
  | n + 16, h => exact absurd h (by omega)
theorem digK_some {x : Int} (h : digK x = true) : ∃ k : Nat, x = k ∧ k < 16 ∧ digX x = (digB k : Nat) := by
  unfold digK at h
  split at h
  · exact ⟨_, rfl, blt_lt h, rfl⟩
  · cases h
theorem digP_ok : PrimOk Tryz.prog ln w0 9 digP := by
  intro U G h w args vs v h' k hA e
  have hc : Callable Tryz.prog 9 := ⟨Tryz.f9, Tryz.func9, by kernel_rfl, by kernel_rfl⟩
  unfold digP at e
  split at e
  · obtain ⟨h1, e⟩ := bt_some e
    cases e
    obtain ⟨u, rfl, hu⟩ := hA.one
    cases hu
    obtain ⟨n, rfl, hn, hx⟩ := digK_some h1
    rw [hx]
    exact Does.of_frame hc k (.int _ _) ((f9_calls n hn w).mono fun e w' ⟨he, hw⟩ => ⟨he, hw ▸ Below.refl _ _⟩)
  · rename_i l
    obtain ⟨h1, e⟩ := bt_some e
    cases e
    obtain ⟨u, rfl, hu⟩ := hA.one
    cases hu with
    | @ivec _ _ x hx0 =>
      obtain ⟨n, rfl, hn, hx⟩ := digK_some (allB_all _ h1 _ (List.mem_of_getElem? hx0))
      exact Does.of_frame hc k (lanesI_ok (by rw [List.getElem?_map, hx0]; rw [Option.map_some, hx])) ((f9_calls n hn w).mono fun e w' ⟨he, hw⟩ => ⟨he, hw ▸ Below.refl _ _⟩)
  · cases e
theorem prim_ok (hw : OkW w0) : ∀ (f : FuncId) (p : Prim), prim f = some p → PrimOk Tryz.prog ln w0 f p := by
  have ok : ∀ w, Below w0.heap.size w0 w → OkW w := fun w hb => hw.below hb
  intro f p hp
  unfold prim at hp
  split at hp
  · cases hp
    refine idxP_ok fun s c w => ?_
    rw [run_callFunc_extern Tryz.func114 (by kernel_rfl) (by kernel_rfl) (by kernel_rfl) (e := Extern.BytealgIndexByte.indexByte) (by kernel_rfl)]
    rw [Sem.run_bind]
    rfl
  · cases hp
    refine cntP_ok fun s c w => ?_
    rw [run_callFunc_extern Tryz.func36 (by kernel_rfl) (by kernel_rfl) (by kernel_rfl) (e := Extern.BytealgCount.count) (by kernel_rfl)]
    rw [Sem.run_bind]
    rfl
  · cases hp
    exact itoaP_ok ⟨Tryz.f22, Tryz.func22, by kernel_rfl, by kernel_rfl⟩ fun n w hb h0 h1 => (Tryz.strconv_Itoa n h0 h1 w (ok w hb).tab).mono fun e w' ⟨he, k, os, hw'⟩ => ⟨he, hw' ▸ below_growN w k os⟩
  · cases hp
    exact joinP_ok ⟨Tryz.f48, Tryz.func48, by kernel_rfl, by kernel_rfl⟩ (fun a c sep w => (Tryz.strings_Join_none a c sep w).mono fun e w' ⟨he, hw'⟩ => ⟨he, hw' ▸ Below.refl _ _⟩)
      fun bk o c xs sep w h1 h2 h3 h4 h5 => Tryz.strings_Join bk o c xs sep w h1 h2 h3 h4 h5
  · cases hp
    refine replP_ok ⟨Tryz.f17, Tryz.func17, by kernel_rfl, by kernel_rfl⟩ fun s old new w hb h1 h2 h3 => ?_
    obtain ⟨m, hm⟩ := (ok w hb).mx
    refine Tryz.strings_ReplaceAll s old new m w (by omega) hm (by omega) ?_
    rw [h3]
    have := Lib.countB_mul_le old (by omega) s.size s (Nat.le_refl _)
    rw [h2, Nat.mul_one] at this
    omega
  · cases hp
    exact insP_ok
  · cases hp
    refine atoiP_ok ⟨Tryz.f53, Tryz.func53, by kernel_rfl, by kernel_rfl⟩ (fun s n w hb h1 h2 => (Tryz.strconv_Atoi_ok s (by omega) n h2 w).mono fun e w' ⟨he, hw'⟩ => ⟨he, ?_⟩) fun s w hb h1 h2 => ?_
    · rcases hw' with rfl | ⟨t, rfl⟩
      · exact Below.refl _ _
      · exact below_bytes w 5 t
    · obtain ⟨ev, hev, hk⟩ := (ok w hb).er
      exact (Tryz.strconv_Atoi_syntax s (by omega) h2 ev w hev hk).mono fun e w' ⟨N, he, _, _, hb'⟩ => ⟨_, _, he, hb'⟩
  · cases hp
    exact digP_ok
  · cases hp
end
end Go.Run
