/- ask.fields: an ask's fields, put behind one another by a closure. -/
import Derived.Test.YtphnfbjbpbfpkaaDoorAskC
namespace Go.Proofs.YtphnfbjbpbfpkaaDoor
open Go.RowKit
set_option maxRecDepth 100000

/-- The list that is being put together: its variable lies in block bo, all of it is the call's own from block B on. -/
structure Acc (B : Nat) (w : World) (bo : Nat) (l : List Fld) : Prop where
  lies : ∃ ov, w.heap[bo]? = some (.cells #[ov] 37 (0, 0)) ∧ w.ownsRow B 55 2 ov l.length (fcells l)
  own : B ≤ bo
/-- What putting a field leaves as it was: every other block that holds no fields. -/
structure Puts (B bo : Nat) (w w' : World) : Prop where
  below : Below B w w'
  others : ∀ b cs T fz, w.heap[b]? = some (.cells cs T fz) → 55 ≠ T → b ≠ bo → w'.heap[b]? = some (.cells cs T fz)
theorem Puts.trans {B bo : Nat} {a b c : World} (h : Puts B bo a b) (k : Puts B bo b c) : Puts B bo a c :=
  ⟨h.below.trans k.below, fun x cs T fz hx hT hb => k.others x cs T fz (h.others x cs T fz hx hT hb) hT hb⟩
theorem Puts.refl (B bo : Nat) (w : World) : Puts B bo w w := ⟨Below.refl _ _, fun _ _ _ _ h _ _ => h⟩

theorem Acc.put {B : Nat} {w w1 w2 : World} {bo : Nat} {l : List Fld} {ov v' : Value} {t : Int} {s : ByteArray} {o : Obj} (hB : B ≤ w.heap.size) (hbB : B ≤ bo) (hbo : w.heap[bo]? = some (.cells #[ov] 37 (0, 0))) (hown : w.ownsRow B 55 2 ov l.length (fcells l))
    (hb1 : Ext w w1) (hg : (w1.alloc o).grownBy w2 ov.ownBlock) (hown' : w2.ownsRow B 55 2 v' (l.length + 1) (fcells l ++ [.int .i64 t, .string s])) :
    Acc B (w2.setCell ⟨bo, 0, none⟩ v') bo (l ++ [⟨t, s⟩]) ∧ Puts B bo w (w2.setCell ⟨bo, 0, none⟩ v') := by
  have hb : ∀ k, k < w.heap.size → some k ≠ ov.ownBlock → w2.heap[k]? = w.heap[k]? := fun k hk hne => by
    have hk1 : k < w1.heap.size := Nat.lt_of_lt_of_le hk hb1.size
    rw [hg.block k (by rw [size_alloc]; omega) hne, heap_alloc_lt w1 o hk1]
    exact Below.block hb1 k hk
  have hbo2 : w2.heap[bo]? = _ := (hb bo (heap_lt hbo) (own_ne_blk hown hbo (by decide))).trans hbo
  have hl : fcells l ++ [.int .i64 t, .string s] = fcells (l ++ [⟨t, s⟩]) := by simp [fcells]
  rw [hl] at hown'
  have hlen : l.length + 1 = (l ++ [(⟨t, s⟩ : Fld)]).length := by simp
  rw [hlen] at hown'
  refine ⟨⟨⟨v', ?_, own_set_ne hown' hbo2 (by decide) 0 v'⟩, hbB⟩, ⟨?_, ?_⟩⟩
  · rw [heap_set_at hbo2]; rfl
  · exact ((((Below.mono hb1 hB)).alloc (Nat.le_trans hB hb1.size) o).grown hg (Nat.le_trans hB (Nat.le_trans hb1.size (by rw [size_alloc]; omega))) (fun k hk => ownsRow_block hown k hk)).setCell hbB _
  · intro b cs T fz hbk hT hne
    exact (heap_set_ne _ _ _ hne).trans ((hb b (heap_lt hbk) (own_ne_blk hown hbk hT)).trans hbk)

set_option maxHeartbeats 4000000 in
theorem put_calls (B : Nat) (w : World) (bo : Nat) (l : List Fld) (h : Acc B w bo l) (hl : l.length ≤ 100) (hB : B ≤ w.heap.size) (t : Int) (x : Value) (s : ByteArray)
    (hT : ∀ W, Ext w W → Calls Tryd.prog 29 #[x] W fun e w' => e = .returned (.string s) ∧ Ext W w') :
    Calls Tryd.prog 28 #[.int .i64 t, x, .pointer (some ⟨bo, 0, none⟩)] w fun e w' => e = .returned (.tuple #[]) ∧ Acc B w' bo (l ++ [⟨t, s⟩]) ∧ Puts B bo w w' := by
  obtain ⟨i0, hi, hz0, hz1, hz2⟩ := info_parts fldInfo
  obtain ⟨⟨ov, hbo, hown⟩, hbB⟩ := h
  obtain ⟨A, c, rfl⟩ := ownsRow_form hown
  have c0 := cell_of (i := 0) hbo
  have hlt := heap_lt hbo
  have HT := Lib.hid hT
  clear hT
  go_enter Tryd.func28, Tryd.ntmps28
  go_region_law (first
    | (rw [if_pos (by rfl)]; go_simp; go_at_call 29; refine (HT.out _ ((Ext.refl w).drew)).mono ?_; rintro e w1 ⟨rfl, hb1⟩; go_must (obtain ⟨hc1, hf1⟩ := hb1.cells; have c1 := (hc1 bo 0 hlt).trans c0; have hlt1 := heap_lt (((Ext.refl w).drew.trans hb1).heap hbo)))
    | (refine step_append_own rfl (.tmp 5) (.tmp 10) 37 rfl B 55 i0 _ 2 24 Tryd.underlying37 hi hz0 hz1 hz2 rfl (by decide) (.slice A l.length c) l.length (fcells l) rfl (ownsRow_ext hown (((Ext.refl w).drew.trans hb1).alloc _)) ⟨w1.heap.size, 0, none⟩ 1 1 [.int .i64 t, .string s] rfl rfl (fresh_cells [_, _] rfl) (by intro u hu; simp at hu; rcases hu with rfl | rfl <;> rfl) (by unfold maxLen; omega) (by omega) (by have h1 := hb1.size; simp at h1; simp; omega) ?_; intro v' w2 hown' hgrow; obtain ⟨A', c', rfl⟩ := ownsRow_form hown'; have hbo1 := ((Ext.refl w).drew.trans hb1).heap hbo; have hw2 := (hgrow.block bo (by have := heap_lt hbo1; simp; omega) (own_ne_blk hown hbo (by decide))).trans ((heap_alloc_lt w1 _ (heap_lt hbo1)).trans hbo1); have g0 := cell_of (i := 0) hw2; have g1 := frozen_of (i := 0) hw2))
  all_goals (go_end0; exact ⟨rfl, Acc.put hB hbB hbo hown ((Ext.refl w).drew.trans hb1) hgrow hown'⟩)
end Go.Proofs.YtphnfbjbpbfpkaaDoor
