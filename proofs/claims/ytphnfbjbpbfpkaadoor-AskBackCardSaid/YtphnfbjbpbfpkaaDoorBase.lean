/- Words and small lemmas on memory that the walks of this seat use: slices that read as lists, maps that read as lists of pairs, what a call keeps. -/
import Derived.Test.YtphnfbjbpbfpkaaDoorProg
import Derived.WalkKit
import Derived.WalkSpells
import Derived.WalkLawsBesides
import Derived.Lib.OthersKept
import Derived.Lib.Hide
import Derived.Deep.QuietTactic
import Derived.BigQuiet
namespace Go.Proofs.YtphnfbjbpbfpkaaDoor
open Go.RowKit

/-! ### small words -/
theorem len_beq {α : Type} (l : List α) : ((l.length : Int) == 0) = l.isEmpty := by cases l <;> simp <;> omega
theorem take_succ_all {l : List Int} {k : Nat} (hk : k < l.length) (p : Int → Bool) : (l.take (k + 1)).all p = ((l.take k).all p && p (l.getD k 0)) := by
  rw [List.take_succ_eq_append_getElem hk, List.all_append]
  simp [List.getD_eq_getElem?_getD, List.getElem?_eq_getElem hk]
theorem take_succ_any {l : List Int} {k : Nat} (hk : k < l.length) (p : Int → Bool) : (l.take (k + 1)).any p = ((l.take k).any p || p (l.getD k 0)) := by
  rw [List.take_succ_eq_append_getElem hk, List.any_append]
  simp [List.getD_eq_getElem?_getD, List.getElem?_eq_getElem hk]
theorem all_false {l : List Int} {k : Nat} (hk : k < l.length) (p : Int → Bool) (h : p (l.getD k 0) = false) : l.all p = false := by
  have : l.getD k 0 ∈ l := by simp [List.getD_eq_getElem?_getD, List.getElem?_eq_getElem hk]
  rw [List.all_eq_false]
  exact ⟨_, this, by rw [h]; decide⟩
theorem below_cell {B : Nat} {w w' : World} (h : Below B w w') : (∀ b o, b < B → w'.cell? ⟨b, o, none⟩ = w.cell? ⟨b, o, none⟩) ∧ (∀ b o, b < B → w'.frozen? ⟨b, o, none⟩ = w.frozen? ⟨b, o, none⟩) :=
  ⟨fun b o hb => h.cell (p := ⟨b, o, none⟩) hb, fun b o hb => h.frozen (p := ⟨b, o, none⟩) hb⟩
theorem below_of_eq {w w' : World} (h : w' = w) (B : Nat) : Below B w w' := h ▸ Below.refl B w
theorem below_drewN {B : Nat} {a w : World} (h : Below B a w) (n : Nat) : Below B a (w.drewN n) := ⟨h.os, h.tape, h.output, h.size, h.block⟩
theorem heap_lt {w : World} {b : Nat} {o : Obj} (h : w.heap[b]? = some o) : b < w.heap.size := (Array.getElem?_eq_some_iff.1 h).1
theorem cell_of {w : World} {b i : Nat} {cs : Array Value} {t : TypeId} {fz : Nat × Nat} (h : w.heap[b]? = some (.cells cs t fz)) : w.cell? ⟨b, i, none⟩ = cs[i]? := by simp [World.cell?, h]
theorem frozen_of {w : World} {b i : Nat} {cs : Array Value} {t : TypeId} (h : w.heap[b]? = some (.cells cs t (0, 0))) : w.frozen? ⟨b, i, none⟩ = false := by simp [World.frozen?, h]
theorem heap_alloc_at (w : World) (o : Obj) : (w.alloc o).heap[w.heap.size]? = some o := by show (w.heap.push o)[_]? = _; simp
theorem heap_alloc_lt (w : World) (o : Obj) {k : Nat} (h : k < w.heap.size) : (w.alloc o).heap[k]? = w.heap[k]? := Below.heap_alloc w o k h
theorem heap_set_ne (w : World) (a : Addr) (u : Value) {k : Nat} (h : k ≠ a.block) : (w.setCell a u).heap[k]? = w.heap[k]? := Below.heap_setCell w a u k h
theorem heap_set_at {w : World} {b i : Nat} {cs : Array Value} {t : TypeId} {fz : Nat × Nat} (h : w.heap[b]? = some (.cells cs t fz)) (u : Value) :
    (w.setCell ⟨b, i, none⟩ u).heap[b]? = some (.cells (cs.setIfInBounds i u) t fz) := by
  simp [World.setCell, Array.getElem?_modify, h]
theorem size_set (w : World) (a : Addr) (u : Value) : (w.setCell a u).heap.size = w.heap.size := by simp [World.setCell]
theorem size_alloc (w : World) (o : Obj) : (w.alloc o).heap.size = w.heap.size + 1 := by show (w.heap.push o).size = _; simp

/-- All that was there is as it was: new blocks may have come. -/
def Ext (w w' : World) : Prop := Below w.heap.size w w'
theorem Ext.refl (w : World) : Ext w w := Below.refl _ w
theorem Ext.size {a b : World} (h : Ext a b) : a.heap.size ≤ b.heap.size := Below.size h
theorem Ext.trans {a b c : World} (h : Ext a b) (k : Ext b c) : Ext a c := Below.trans h (Below.mono k h.size)
theorem Ext.alloc {a b : World} (h : Ext a b) (o : Obj) : Ext a (b.alloc o) := Below.alloc h h.size o
theorem Ext.drew {a b : World} (h : Ext a b) : Ext a b.drew := Below.drew h
theorem Ext.drewN {a b : World} (h : Ext a b) (n : Nat) : Ext a (b.drewN n) := below_drewN h n
theorem Ext.setCell {a b : World} (h : Ext a b) {p : Addr} (hp : a.heap.size ≤ p.block) (u : Value) : Ext a (b.setCell p u) := Below.setCell h hp u
theorem Ext.grown {a b c : World} {row : Option Nat} (h : Ext a b) (hg : b.grownBy c row) (hr : ∀ k, row = some k → a.heap.size ≤ k) : Ext a c := Below.grown h hg h.size hr
theorem Ext.iterAt {a b : World} (h : Ext a b) {k : Nat} (hk : a.heap.size ≤ k) (s : ByteArray) (pos : Nat) : Ext a (b.iterAt k s pos) := Lib.below_iterAt h hk s pos
theorem Ext.cells {w w' : World} (h : Ext w w') : (∀ b o, b < w.heap.size → w'.cell? ⟨b, o, none⟩ = w.cell? ⟨b, o, none⟩) ∧ (∀ b o, b < w.heap.size → w'.frozen? ⟨b, o, none⟩ = w.frozen? ⟨b, o, none⟩) := below_cell h
theorem Ext.heap {w w' : World} (h : Ext w w') {b : Nat} {o : Obj} (hb : w.heap[b]? = some o) : w'.heap[b]? = some o := (Below.block h b (heap_lt hb)).trans hb
theorem Ext.iter (w : World) (s : ByteArray) (p : Nat) : Ext w (w.iter s p) := (Ext.refl w).alloc _

/-- What two worlds share but for the blocks of D: all else that was there is as it was. -/
structure Keeps (D : List Nat) (w w' : World) : Prop where
  os : w'.os = w.os
  tape : w'.tape = w.tape
  output : w'.output = w.output
  size : w.heap.size ≤ w'.heap.size
  block : ∀ k, k < w.heap.size → k ∉ D → w'.heap[k]? = w.heap[k]?
theorem Keeps.refl (D : List Nat) (w : World) : Keeps D w w := ⟨rfl, rfl, rfl, Nat.le_refl _, fun _ _ _ => rfl⟩
theorem Keeps.of_ext {w w' : World} (h : Ext w w') (D : List Nat) : Keeps D w w' := ⟨Below.os h, Below.tape h, Below.output h, h.size, fun k hk _ => Below.block h k hk⟩
theorem Keeps.ext {w w' : World} (h : Keeps [] w w') : Ext w w' := ⟨h.os, h.tape, h.output, h.size, fun k hk => h.block k hk (by simp)⟩
theorem Keeps.of_below {w w' : World} (h : Below w.heap.size w w') (D : List Nat) : Keeps D w w' := ⟨h.os, h.tape, h.output, h.size, fun k hk _ => h.block k hk⟩
theorem Keeps.below {w w' : World} {D : List Nat} (h : Keeps D w w') {B : Nat} (hB : B ≤ w.heap.size) (hD : ∀ d ∈ D, B ≤ d) : Below B w w' :=
  ⟨h.os, h.tape, h.output, h.size, fun k hk => h.block k (by omega) (fun hm => by have := hD k hm; omega)⟩
theorem Keeps.trans {D : List Nat} {a b c : World} (h : Keeps D a b) (k : Keeps D b c) : Keeps D a c :=
  ⟨k.os.trans h.os, k.tape.trans h.tape, k.output.trans h.output, Nat.le_trans h.size k.size, fun i hi hd => (k.block i (by have := h.size; omega) hd).trans (h.block i hi hd)⟩
theorem Keeps.mono {D D' : List Nat} {a b : World} (h : Keeps D a b) (hD : ∀ d ∈ D, d ∈ D') : Keeps D' a b :=
  ⟨h.os, h.tape, h.output, h.size, fun k hk hn => h.block k hk (fun hm => hn (hD k hm))⟩
theorem Keeps.drew {D : List Nat} {a b : World} (h : Keeps D a b) : Keeps D a b.drew := ⟨h.os, h.tape, h.output, h.size, h.block⟩
theorem Keeps.alloc {D : List Nat} {a b : World} (h : Keeps D a b) (o : Obj) : Keeps D a (b.alloc o) :=
  ⟨h.os, h.tape, h.output, by rw [size_alloc]; have := h.size; omega, fun k hk hd => (heap_alloc_lt b o (by have := h.size; omega)).trans (h.block k hk hd)⟩
theorem Keeps.setCell {D : List Nat} {a b : World} (h : Keeps D a b) {p : Addr} (hp : p.block ∈ D ∨ a.heap.size ≤ p.block) (u : Value) : Keeps D a (b.setCell p u) :=
  ⟨h.os, h.tape, h.output, by rw [size_set]; exact h.size, fun k hk hd => (heap_set_ne b p u (by rintro rfl; rcases hp with hp | hp; exact hd hp; omega)).trans (h.block k hk hd)⟩
theorem Keeps.grown {D : List Nat} {a b c : World} {row : Option Nat} (h : Keeps D a b) (hg : b.grownBy c row) (hr : ∀ k, row = some k → k ∈ D ∨ a.heap.size ≤ k) : Keeps D a c :=
  ⟨hg.os.trans h.os, hg.tape.trans h.tape, hg.output.trans h.output, Nat.le_trans h.size hg.size, fun k hk hd =>
    (hg.block k (by have := h.size; omega) (fun e => by rcases hr k e.symm with hr | hr; exact hd hr; omega)).trans (h.block k hk hd)⟩

/-! ### what an interface value is asserted to be -/
theorem assert_yes {P : Program} (w : World) (xt t : TypeId) (v : Value) {d : TypeDesc} (h : P.underlying t = some d) (hi : ∀ ms, d ≠ .interface ms) :
    (Instr.typeAssert (.iface t v) xt t true).run P w = .ok (.tuple #[v, .bool true]) w := by
  unfold Instr.typeAssert
  simp only [Sem.run_bind, run_underlying h, Result.andThen]
  cases d <;> first | (exfalso; exact hi _ rfl) | simp
theorem assert_no {P : Program} (w : World) (xt t t' : TypeId) (v z : Value) {d : TypeDesc} (h : P.underlying t' = some d) (hi : ∀ ms, d ≠ .interface ms) (hne : t ≠ t') (hz : ∀ w, (zeroValue t').run P w = .ok z w) :
    (Instr.typeAssert (.iface t v) xt t' true).run P w = .ok (.tuple #[z, .bool false]) w := by
  unfold Instr.typeAssert
  simp only [Sem.run_bind, run_underlying h, Result.andThen]
  cases d <;> first | (exfalso; exact hi _ rfl) | simp [hne, hz, Sem.run_bind, Result.andThen]

/-! ### a slice that reads as a list of cells: n elements of sz cells each -/
def SlAt (w : World) (v : Value) (sz n : Nat) (xs : List Value) : Prop :=
  xs.length = n * sz ∧ ∃ A c, v = .slice A n c ∧ n ≤ c ∧ (0 < n → ∃ b off, A = some ⟨b, off, none⟩ ∧ b < w.heap.size ∧ ∀ j u, xs[j]? = some u → w.cell? ⟨b, off + j, none⟩ = some u)
theorem SlAt.nil (w : World) (sz : Nat) : SlAt w (.slice none 0 0) sz 0 [] := ⟨by simp, none, 0, rfl, Nat.le_refl _, fun h => absurd h (by omega)⟩
theorem SlAt.keep {w w' : World} {v : Value} {sz n : Nat} {xs : List Value} (h : SlAt w v sz n xs) (hs : w.heap.size ≤ w'.heap.size) (hk : ∀ A c, v = .slice (some A) n c → w'.heap[A.block]? = w.heap[A.block]?) : SlAt w' v sz n xs := by
  obtain ⟨hl, A, c, rfl, hc, h⟩ := h
  refine ⟨hl, A, c, rfl, hc, fun hn => ?_⟩
  obtain ⟨b, off, rfl, hb, hx⟩ := h hn
  refine ⟨b, off, rfl, by omega, fun j u hu => ?_⟩
  exact (World.cell?_of_block (w := w) (a := ⟨b, off + j, none⟩) (hk ⟨b, off, none⟩ c rfl)).trans (hx j u hu)
theorem SlAt.below {w w' : World} {v : Value} {sz n : Nat} {xs : List Value} (h : SlAt w v sz n xs) (hb : Below w.heap.size w w') : SlAt w' v sz n xs := by
  obtain ⟨hl, A, c, rfl, hc, h⟩ := h
  refine ⟨hl, A, c, rfl, hc, fun hn => ?_⟩
  obtain ⟨b, off, rfl, hlt, hx⟩ := h hn
  refine ⟨b, off, rfl, by have := hb.size; omega, fun j u hu => ?_⟩
  rw [hb.cell (p := ⟨b, off + j, none⟩) hlt]
  exact hx j u hu
theorem SlAt.ext {w w' : World} {v : Value} {sz n : Nat} {xs : List Value} (h : SlAt w v sz n xs) (hb : Ext w w') : SlAt w' v sz n xs := h.below hb
theorem SlAt.belowB {w w' : World} {v : Value} {sz n : Nat} {xs : List Value} {B : Nat} (h : SlAt w v sz n xs) (hb : Below B w w') (hB : w.heap.size ≤ B) : SlAt w' v sz n xs := h.below (hb.mono hB)
theorem SlAt.of_own {w : World} {base : Nat} {e : TypeId} {sz n : Nat} {v : Value} {xs : List Value} (h : w.ownsRow base e sz v n xs) : SlAt w v sz n xs := by
  obtain ⟨hl, h⟩ := h
  refine ⟨hl, ?_⟩
  rcases h with ⟨rfl, rfl⟩ | ⟨g, cap, cur, rfl, hb, hg, hn, _, hsz, hx⟩
  · exact ⟨none, 0, rfl, Nat.le_refl _, fun h => absurd h (by omega)⟩
  · refine ⟨_, cap, rfl, hn, fun _ => ⟨g, 0, rfl, heap_lt hg, fun j u hu => ?_⟩⟩
    rw [cell_of hg, Nat.zero_add]
    have hj : j < xs.length := (List.getElem?_eq_some_iff.1 hu).1
    rw [← hx, List.getElem?_take_of_lt (by omega)] at hu
    simpa using hu
theorem SlAt.at_ {w : World} {v : Value} {sz n : Nat} {xs : List Value} (h : SlAt w v sz n xs) (hn : 0 < n) : ∃ b off c, v = .slice (some ⟨b, off, none⟩) n c ∧ n ≤ c ∧ b < w.heap.size ∧ ∀ j u, xs[j]? = some u → w.cell? ⟨b, off + j, none⟩ = some u := by
  obtain ⟨_, A, c, rfl, hc, h⟩ := h
  obtain ⟨b, off, rfl, hb, hx⟩ := h hn
  exact ⟨b, off, c, rfl, hc, hb, hx⟩
theorem SlAt.form {w : World} {v : Value} {sz n : Nat} {xs : List Value} (h : SlAt w v sz n xs) : ∃ A c, v = .slice A n c ∧ n ≤ c := by
  obtain ⟨_, A, c, rfl, hc, _⟩ := h
  exact ⟨A, c, rfl, hc⟩

theorem add_mk (g o j : Nat) : (⟨g, o, none⟩ : Addr).add j = ⟨g, o + j, none⟩ := by
  unfold Addr.add
  by_cases h : j = 0
  · simp [h]
  · simp [h]
/-- The cells of the block that was made last. -/
theorem fresh_cells {w : World} {T : TypeId} (xs : List Value) {g : Nat} (hg : g = w.heap.size) (j : Nat) (u : Value) (h : xs[j]? = some u) : (w.alloc (.cells xs.toArray T)).cell? ((⟨g, 0, none⟩ : Addr).add j) = some u := by
  subst hg
  rw [add_mk, cell_of (heap_alloc_at w _)]
  simpa using h
theorem ownsRow_ext {w w' : World} {B : Nat} {e : TypeId} {sz n : Nat} {v : Value} {xs : List Value} (h : w.ownsRow B e sz v n xs) (he : Ext w w') : w'.ownsRow B e sz v n xs := by
  refine ⟨h.1, ?_⟩
  rcases h.2 with hn | ⟨g, cap, cur, hv, hbg, hg, rest⟩
  · exact .inl hn
  · exact .inr ⟨g, cap, cur, hv, hbg, he.heap hg, rest⟩
theorem ownsRow_mono {w : World} {B B' : Nat} {e : TypeId} {sz n : Nat} {v : Value} {xs : List Value} (h : w.ownsRow B e sz v n xs) (hB : B' ≤ B) : w.ownsRow B' e sz v n xs := by
  refine ⟨h.1, ?_⟩
  rcases h.2 with hn | ⟨g, cap, cur, hv, hbg, rest⟩
  · exact .inl hn
  · exact .inr ⟨g, cap, cur, hv, by omega, rest⟩
theorem own_ne_blk {w : World} {B : Nat} {e T : TypeId} {sz n p : Nat} {v : Value} {xs : List Value} {cs : Array Value} {fz : Nat × Nat} (h : w.ownsRow B e sz v n xs) (hp : w.heap[p]? = some (.cells cs T fz)) (hne : e ≠ T) : some p ≠ v.ownBlock := by
  rcases h.2 with ⟨rfl, _⟩ | ⟨g, cap, cur, rfl, _, hg, _⟩
  · simp [Value.ownBlock]
  · intro hm
    simp only [Value.ownBlock, Option.some.injEq] at hm
    subst hm
    rw [hp] at hg
    injection hg with hg
    injection hg with _ h2
    exact hne h2.symm
theorem ownsRow_form {w : World} {B : Nat} {e : TypeId} {sz n : Nat} {v : Value} {xs : List Value} (h : w.ownsRow B e sz v n xs) : ∃ A c, v = .slice A n c := by
  obtain ⟨A, c, hv, _⟩ := SlAt.form (SlAt.of_own h)
  exact ⟨A, c, hv⟩
theorem ownsRow_block {w : World} {B : Nat} {e : TypeId} {sz n : Nat} {v : Value} {xs : List Value} (h : w.ownsRow B e sz v n xs) : ∀ k, v.ownBlock = some k → B ≤ k := by
  intro k hk
  rcases h.2 with ⟨rfl, _⟩ | ⟨g, cap, cur, rfl, hbg, _⟩
  · simp [Value.ownBlock] at hk
  · simp [Value.ownBlock] at hk; omega

/-! ### a slice of ints -/
def iv (l : List Int) : List Value := l.map (Value.int .i64)
def Ints (w : World) (v : Value) (l : List Int) : Prop := SlAt w v 1 l.length (iv l)
theorem Ints.nil (w : World) : Ints w (.slice none 0 0) [] := SlAt.nil w 1
theorem Ints.ext {w w' : World} {v : Value} {l : List Int} (h : Ints w v l) (hb : Ext w w') : Ints w' v l := SlAt.below h hb
theorem Ints.at_ {w : World} {v : Value} {l : List Int} (h : Ints w v l) {k : Nat} (hk : k < l.length) : ∃ b off c, v = .slice (some ⟨b, off, none⟩) l.length c ∧ b < w.heap.size ∧ w.cell? ⟨b, off + k, none⟩ = some (.int .i64 (l.getD k 0)) := by
  obtain ⟨b, off, c, rfl, _, hb, hx⟩ := SlAt.at_ h (by omega)
  refine ⟨b, off, c, rfl, hb, hx k _ ?_⟩
  simp [iv, List.getElem?_map, List.getElem?_eq_getElem hk, List.getD_eq_getElem?_getD]

/-! ### a map that reads as a list of pairs, in the order in which the keys came in -/
def MapAt (w : World) (b : Nat) (l : List (Value × Value)) : Prop := ∃ es clock, w.heap[b]? = some (.map es clock) ∧ es.toList.map (fun e => (e.key, e.val)) = l
theorem MapAt.lt {w : World} {b : Nat} {l : List (Value × Value)} (h : MapAt w b l) : b < w.heap.size := by obtain ⟨es, c, h, _⟩ := h; exact heap_lt h
theorem MapAt.keep {w w' : World} {b : Nat} {l : List (Value × Value)} (h : MapAt w b l) (hk : w'.heap[b]? = w.heap[b]?) : MapAt w' b l := by
  obtain ⟨es, c, h, hl⟩ := h
  exact ⟨es, c, hk.trans h, hl⟩
theorem MapAt.new (w : World) : MapAt (w.alloc (.map #[] 0)) w.heap.size [] := ⟨#[], 0, heap_alloc_at w _, rfl⟩
end Go.Proofs.YtphnfbjbpbfpkaaDoor
