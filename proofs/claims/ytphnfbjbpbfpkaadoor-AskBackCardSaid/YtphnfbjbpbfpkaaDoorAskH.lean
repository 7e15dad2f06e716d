/- ask.Decode. -/
import Derived.Test.YtphnfbjbpbfpkaaDoorAskG
namespace Go.Proofs.YtphnfbjbpbfpkaaDoor
open Go.RowKit
set_option maxRecDepth 100000

def kindUpto (word : ByteArray) : Nat → Int
  | 0 => 0
  | k + 1 => if kindOfB ((k : Int) + 1) = word then (k : Int) + 1 else kindUpto word k
def kindNum (word : ByteArray) : Int := kindUpto word 5
structure DecR where
  ask : Ask
  tag : Int
  e : Int
def wordF (F : FormS) : ByteArray := (assoc F.vals 35).getD ⟨#[]⟩
def decF (F : FormS) : DecR :=
  if kindNum (wordF F) = 0 then ⟨zeroAsk 0, 35, 120⟩
  else if (doneR (readAsk (kindNum (wordF F)) (kindF F)).2).2 = 0 then
    if (wholeR (readAsk (kindNum (wordF F)) (kindF F)).1).2 = 0 then ⟨(readAsk (kindNum (wordF F)) (kindF F)).1, 0, 0⟩
    else ⟨zeroAsk 0, (wholeR (readAsk (kindNum (wordF F)) (kindF F)).1).1, (wholeR (readAsk (kindNum (wordF F)) (kindF F)).1).2⟩
  else ⟨zeroAsk 0, (doneR (readAsk (kindNum (wordF F)) (kindF F)).2).1, (doneR (readAsk (kindNum (wordF F)) (kindF F)).2).2⟩
def decR (s : ByteArray) : DecR := match (readR s).form with
  | none => ⟨zeroAsk 0, 0, (readR s).e⟩
  | some F => decF F
def DecPost (w : World) (r : DecR) (e : Ending) (w' : World) : Prop :=
  ∃ c, e = .returned (.tuple #[.agg (r.ask.cells c), .int .i64 r.tag, .int .i64 r.e]) ∧ Ints w' c r.ask.curve ∧ Ext w w'

section
variable {W w : World} {p mv ma pa : Nat} {ov : Value} {F : FormS} {cs : Array Value}
theorem RS.ext0 (h : RS W w p mv ma ov F pa cs) (hp : W.heap.size ≤ p) (hma : W.heap.size ≤ ma) (hpa : W.heap.size ≤ pa) : Ext W w :=
  h.keep.below (Nat.le_refl _) (by simp; exact ⟨hp, hma, hpa⟩)
theorem RS.put0 (h : RS W w p mv ma ov F pa cs) (hp : W.heap.size ≤ p) (hma : W.heap.size ≤ ma) (hpa : W.heap.size ≤ pa) (hg : Glob W) (k : Int) (hc : 0 < cs.size) (cs' : Array Value) (he : cs.setIfInBounds 0 (.int .i64 k) = cs') : RS W (w.setCell ⟨pa, 0, none⟩ (.int .i64 k)) p mv ma ov F pa cs' := by
  subst he
  have hk : Keeps [p, ma, pa] W (w.setCell ⟨pa, 0, none⟩ (.int .i64 k)) := h.keep.setCell (.inl (by simp)) _
  exact ⟨⟨(heap_set_ne _ _ _ (Ne.symm h.pa_p)).trans h.form.blk, own_set_ne h.form.ord h.blk (by decide) _ _, h.form.vals.keep (heap_set_ne _ _ _ (Ne.symm h.pa_mv)), h.form.asked.keep (heap_set_ne _ _ _ (Ne.symm h.pa_ma)), h.form.ne⟩, heap_set_at h.blk _, hk, h.vals,
    hg.ext (hk.below (Nat.le_refl _) (by simp; exact ⟨hp, hma, hpa⟩)), ⟨k, by simp [hc]⟩⟩
theorem RS.kindC (h : RS W w p mv ma ov F pa cs) : Calls Tryd.prog 15 #[.pointer (some ⟨p, 0, none⟩)] w fun e w' =>
    e = .returned (.string (wordF F)) ∧ RS W w' p mv ma ov (kindF F) pa cs :=
  (kind_calls w h.form).mono (fun e w' ⟨he, hf, hk⟩ => ⟨he, h.step hf hk (kindF_vals F)⟩)
theorem RS.extd {w' : World} (h : RS W w p mv ma ov F pa cs) (he : Ext w w') : RS W w' p mv ma ov F pa cs :=
  ⟨h.form.ext he, he.heap h.blk, h.keep.trans (Keeps.of_ext he _), h.vals, h.glob.ext he, h.kind⟩
end
theorem set14_heap {w1 : World} {b : Nat} {T : TypeId} {fz : Nat × Nat} {a0 a1 a2 a3 a4 a5 a6 a7 a8 a9 a10 a11 a12 a13 : Value} (h : w1.heap[b]? = some (.cells #[a0, a1, a2, a3, a4, a5, a6, a7, a8, a9, a10, a11, a12, a13] T fz)) (v0 v1 v2 v3 v4 v5 v6 v7 v8 v9 v10 v11 v12 v13 : Value) :
    ((((((((((((((w1.setCell ⟨b, 0, none⟩ v0).setCell ⟨b, 1, none⟩ v1).setCell ⟨b, 2, none⟩ v2).setCell ⟨b, 3, none⟩ v3).setCell ⟨b, 4, none⟩ v4).setCell ⟨b, 5, none⟩ v5).setCell ⟨b, 6, none⟩ v6).setCell ⟨b, 7, none⟩ v7).setCell ⟨b, 8, none⟩ v8).setCell ⟨b, 9, none⟩ v9).setCell ⟨b, 10, none⟩ v10).setCell ⟨b, 11, none⟩ v11).setCell ⟨b, 12, none⟩ v12).setCell ⟨b, 13, none⟩ v13).heap[b]? = some (.cells #[v0, v1, v2, v3, v4, v5, v6, v7, v8, v9, v10, v11, v12, v13] T fz) := by
  have := (heap_set_at (i := 13) (heap_set_at (i := 12) (heap_set_at (i := 11) (heap_set_at (i := 10) (heap_set_at (i := 9) (heap_set_at (i := 8) (heap_set_at (i := 7) (heap_set_at (i := 6) (heap_set_at (i := 5) (heap_set_at (i := 4) (heap_set_at (i := 3) (heap_set_at (i := 2) (heap_set_at (i := 1) (heap_set_at (i := 0) h v0) v1) v2) v3) v4) v5) v6) v7) v8) v9) v10) v11) v12) v13)
  simpa using this
theorem set14_ne (w1 : World) {b k : Nat} (hk : k ≠ b) (v0 v1 v2 v3 v4 v5 v6 v7 v8 v9 v10 v11 v12 v13 : Value) : ((((((((((((((w1.setCell ⟨b, 0, none⟩ v0).setCell ⟨b, 1, none⟩ v1).setCell ⟨b, 2, none⟩ v2).setCell ⟨b, 3, none⟩ v3).setCell ⟨b, 4, none⟩ v4).setCell ⟨b, 5, none⟩ v5).setCell ⟨b, 6, none⟩ v6).setCell ⟨b, 7, none⟩ v7).setCell ⟨b, 8, none⟩ v8).setCell ⟨b, 9, none⟩ v9).setCell ⟨b, 10, none⟩ v10).setCell ⟨b, 11, none⟩ v11).setCell ⟨b, 12, none⟩ v12).setCell ⟨b, 13, none⟩ v13).heap[k]? = w1.heap[k]? := by
  iterate 14 rw [heap_set_ne _ _ _ hk]
theorem set14_size (w1 : World) (b : Nat) (v0 v1 v2 v3 v4 v5 v6 v7 v8 v9 v10 v11 v12 v13 : Value) : ((((((((((((((w1.setCell ⟨b, 0, none⟩ v0).setCell ⟨b, 1, none⟩ v1).setCell ⟨b, 2, none⟩ v2).setCell ⟨b, 3, none⟩ v3).setCell ⟨b, 4, none⟩ v4).setCell ⟨b, 5, none⟩ v5).setCell ⟨b, 6, none⟩ v6).setCell ⟨b, 7, none⟩ v7).setCell ⟨b, 8, none⟩ v8).setCell ⟨b, 9, none⟩ v9).setCell ⟨b, 10, none⟩ v10).setCell ⟨b, 11, none⟩ v11).setCell ⟨b, 12, none⟩ v12).setCell ⟨b, 13, none⟩ v13).heap.size = w1.heap.size := by
  iterate 14 rw [size_set]
theorem set14_ext {W w1 : World} {b : Nat} (h : Ext W w1) (hb : W.heap.size ≤ b) (v0 v1 v2 v3 v4 v5 v6 v7 v8 v9 v10 v11 v12 v13 : Value) : Ext W ((((((((((((((w1.setCell ⟨b, 0, none⟩ v0).setCell ⟨b, 1, none⟩ v1).setCell ⟨b, 2, none⟩ v2).setCell ⟨b, 3, none⟩ v3).setCell ⟨b, 4, none⟩ v4).setCell ⟨b, 5, none⟩ v5).setCell ⟨b, 6, none⟩ v6).setCell ⟨b, 7, none⟩ v7).setCell ⟨b, 8, none⟩ v8).setCell ⟨b, 9, none⟩ v9).setCell ⟨b, 10, none⟩ v10).setCell ⟨b, 11, none⟩ v11).setCell ⟨b, 12, none⟩ v12).setCell ⟨b, 13, none⟩ v13) := ((((((((((((((h.setCell (p := ⟨b, 0, none⟩) hb v0).setCell (p := ⟨b, 1, none⟩) hb v1).setCell (p := ⟨b, 2, none⟩) hb v2).setCell (p := ⟨b, 3, none⟩) hb v3).setCell (p := ⟨b, 4, none⟩) hb v4).setCell (p := ⟨b, 5, none⟩) hb v5).setCell (p := ⟨b, 6, none⟩) hb v6).setCell (p := ⟨b, 7, none⟩) hb v7).setCell (p := ⟨b, 8, none⟩) hb v8).setCell (p := ⟨b, 9, none⟩) hb v9).setCell (p := ⟨b, 10, none⟩) hb v10).setCell (p := ⟨b, 11, none⟩) hb v11).setCell (p := ⟨b, 12, none⟩) hb v12).setCell (p := ⟨b, 13, none⟩) hb v13)

theorem zc_ne (k : Int) (v : Value) (c : Value) : (zeroCells k c).setIfInBounds 0 v = #[v, .string ⟨#[]⟩, .string ⟨#[]⟩, .string ⟨#[]⟩, .string ⟨#[]⟩, .int .i64 0, .int .i64 0, .int .i64 0, .int .i64 0, .int .i64 0, .int .i64 0, .int .i64 0, .int .i64 0, c] := by simp

theorem read_none (w : World) (s : ByteArray) (hs : s.size ≤ 70368744177664) (h : (readR s).form = none) : Calls Tryd.prog 14 #[.string s] w fun e w' => e = .returned (.tuple #[.pointer none, .int .i64 (readR s).e]) ∧ Ext w w' :=
  (read_calls w s hs).mono (fun e w' ⟨hx, hm⟩ => by rw [h] at hm; exact ⟨hm, hx⟩)
theorem read_some (w : World) (s : ByteArray) (hs : s.size ≤ 70368744177664) {F : FormS} (h : (readR s).form = some F) : Calls Tryd.prog 14 #[.string s] w fun e w' => ∃ p mv ma ov, e = .returned (.tuple #[.pointer (some ⟨p, 0, none⟩), .int .i64 0]) ∧ FormAt w' p mv ma ov F ∧ w.heap.size ≤ p ∧ w.heap.size ≤ ma ∧ Ext w w' :=
  (read_calls w s hs).mono (fun e w' ⟨hx, hm⟩ => by rw [h] at hm; obtain ⟨p, mv, ma, ov, h1, h2, h3, h4⟩ := hm; exact ⟨p, mv, ma, ov, h1, h2, h3, h4, hx⟩)

set_option maxHeartbeats 4000000 in
theorem decode_none (w : World) (s : ByteArray) (hs : s.size ≤ 4000000000) (h : (readR s).form = none) : Calls Tryd.prog 8 #[.string s] w (DecPost w ⟨zeroAsk 0, 0, (readR s).e⟩) := by
  have HD := Lib.hid (fun W => read_none W s (by omega) h)
  have k0 : ((readR s).e != 0) = true := by rw [bne_iff_ne]; exact readR_none h
  generalize (readR s).e = er at *
  clear h hs
  go_enter Tryd.func8, Tryd.ntmps8
  go_wp2_with (go_at_call 14; refine (HD.out _).mono ?_; rintro e w1 ⟨rfl, hb1⟩; obtain ⟨hcc, hff⟩ := hb1.cells)
  have hh := set14_heap (hb1.heap (heap_alloc_at w _)) (.int .i64 0) (.string ⟨#[]⟩) (.string ⟨#[]⟩) (.string ⟨#[]⟩) (.string ⟨#[]⟩) (.int .i64 0) (.int .i64 0) (.int .i64 0) (.int .i64 0) (.int .i64 0) (.int .i64 0) (.int .i64 0) (.int .i64 0) (.slice none 0 0)
  refine bodyPost_ret (v := .tuple #[.agg (zeroCells 0 (.slice none 0 0)), .int .i64 0, .int .i64 er]) (by simp [results, Tryd.results8, go_sem, cell_of hh]) rfl ⟨.slice none 0 0, rfl, SlAt.nil _ _, ?_⟩
  exact set14_ext (((Ext.refl w).alloc _).trans hb1) (Nat.le_refl _) _ _ _ _ _ _ _ _ _ _ _ _ _ _

set_option maxHeartbeats 8000000 in
theorem decode_kind (w : World) (s : ByteArray) (hs : s.size ≤ 4000000000) {F : FormS} (h : (readR s).form = some F) (hg : Glob w) {kn : Int} {wd : ByteArray} (hwd : wordF F = wd) (hkn : kindUpto wd 5 = kn) (h0 : kn = 0) : Calls Tryd.prog 8 #[.string s] w (DecPost w ⟨zeroAsk 0, 35, 120⟩) := by
  have HD := Lib.hid (fun W => read_some W s (by omega) h)
  have HV := Lib.hid (fun t v hv => Nat.le_trans (readR_vals (s := s) h t v hv) hs)
  have HO := Lib.hid (readR_order h)
  have HGl := Lib.hid hg
  have HK := Lib.hid (fun W k => kindOf_calls W k)
  have HWd := Lib.hid hwd
  have HKn := Lib.hid hkn
  have b0 : (kn == 0) = true := beq_iff_eq.mpr h0
  clear h0
  clear h hs hg hwd hkn
  go_enter Tryd.func8, Tryd.ntmps8
  go_wp2_with (first
    | (go_at_call 14; refine (HD.out _).mono ?_; rintro e w1 ⟨p, mv, ma, ov, rfl, hform, hp, hma, hb1⟩; go_must (rw [size_alloc] at hp hma; have hS : Hid (RS w w1 p mv ma ov F w.heap.size (zeroCells 0 (.slice none 0 0))) := Lib.hid ⟨hform, hb1.heap (heap_alloc_at w _), Keeps.of_ext (((Ext.refl w).alloc _).trans hb1) _, HV.out, HGl.out.ext (((Ext.refl w).alloc _).trans hb1), ⟨0, rfl⟩⟩; have hp' : w.heap.size ≤ p := (by omega); have hma' : w.heap.size ≤ ma := (by omega); clear hform hp hma hb1; have hq := hS.out.cell; have hz := hS.out.frozen))
    | (go_at_call 15; refine (hS.out.kindC).mono ?_; rw [HWd.out]; rintro e w2 ⟨rfl, hS2⟩; clear hS hq hz; have hS := Lib.hid hS2; have hq := hS2.cell; have hz := hS2.frozen; clear hS2))
  go_loopw [7] (fun v7 wr => ∃ k : Nat, v7 = .int .i64 ((k : Int) + 1) ∧ k ≤ 5 ∧ Hid (RS w wr p mv ma ov (kindF F) w.heap.size (zeroCells (kindUpto wd k) (.slice none 0 0)))) (fun v7 _ => 6 - (intOf v7).toNat)
  case atStart => exact ⟨0, rfl, by omega, hS⟩
  case round =>
    clear hS hq hz
    obtain ⟨k, rfl, hk, hS⟩ := hrel
    have hq := hS.out.cell
    have hz := hS.out.frozen
    by_cases hlt : k < 5
    · have b1 : (k : Int) + 1 ≤ 5 := by omega
      by_cases hw : kindOfB ((k : Int) + 1) = wd
      · have b2 : ((kindOfB ((k : Int) + 1)).toList == wd.toList) = true := by rw [← beq_toListBytes, ba_beq, hw]; simp
        have HU := Lib.hid (show kindUpto wd (k + 1) = (k : Int) + 1 by simp [kindUpto, hw])
        clear hw
        go_wp2_with (go_at_call 16; refine (HK.out _ _).mono ?_; rintro e w3 ⟨rfl, rfl⟩)
        go_roundw
        case rel => exact ⟨k + 1, by go_num, by omega, Lib.hid (by rw [HU.out]; exact hS.out.put0 hp' hma' (Nat.le_refl _) HGl.out _ (by simp) _ (by simp))⟩
        case measure => simp [intOf]; omega
      · have b2 : ((kindOfB ((k : Int) + 1)).toList == wd.toList) = false := by rw [← beq_toListBytes, ba_beq]; simpa using hw
        have HU := Lib.hid (show kindUpto wd (k + 1) = kindUpto wd k by simp [kindUpto, hw])
        clear hw
        go_wp2_with (go_at_call 16; refine (HK.out _ _).mono ?_; rintro e w3 ⟨rfl, rfl⟩)
        go_roundw
        case rel => exact ⟨k + 1, by go_num, by omega, Lib.hid (by rw [HU.out]; exact hS.out)⟩
        case measure => simp [intOf]; omega
    · obtain rfl : k = 5 := by omega
      rw [HKn.out] at hS hq
      go_wp2
      have hh := set14_heap hS.out.blk (.int .i64 0) (.string ⟨#[]⟩) (.string ⟨#[]⟩) (.string ⟨#[]⟩) (.string ⟨#[]⟩) (.int .i64 0) (.int .i64 0) (.int .i64 0) (.int .i64 0) (.int .i64 0) (.int .i64 0) (.int .i64 0) (.int .i64 0) (.slice none 0 0)
      refine bodyPost_ret (v := .tuple #[.agg (zeroCells 0 (.slice none 0 0)), .int .i64 35, .int .i64 120]) (by simp [results, Tryd.results8, go_sem, cell_of hh]) rfl ⟨.slice none 0 0, rfl, SlAt.nil _ _, ?_⟩
      exact set14_ext (hS.out.ext0 hp' hma' (Nat.le_refl _)) (Nat.le_refl _) _ _ _ _ _ _ _ _ _ _ _ _ _ _ 

set_option maxHeartbeats 8000000 in
theorem decode_done (w : World) (s : ByteArray) (hs : s.size ≤ 4000000000) {F : FormS} (h : (readR s).form = some F) (hg : Glob w) {kn : Int} {wd : ByteArray} (hwd : wordF F = wd) (hkn : kindUpto wd 5 = kn) (h0 : kn ≠ 0) {ra : Ask} {rF : FormS} (hr : readAsk kn (kindF F) = (ra, rF)) {dt de : Int} (hd : doneR rF = (dt, de)) (hde : de ≠ 0) : Calls Tryd.prog 8 #[.string s] w (DecPost w ⟨zeroAsk 0, dt, de⟩) := by
  have HD := Lib.hid (fun W => read_some W s (by omega) h)
  have HV := Lib.hid (fun t v hv => Nat.le_trans (readR_vals (s := s) h t v hv) hs)
  have HO := Lib.hid (readR_order h)
  have HGl := Lib.hid hg
  have HK := Lib.hid (fun W k => kindOf_calls W k)
  have HWd := Lib.hid hwd
  have HKn := Lib.hid hkn
  have b0 : (kn == 0) = false := beq_eq_false_iff_ne.mpr h0
  clear h0
  have HRd := Lib.hid (fun p mv ma ov (w1 : World) (h : RS w w1 p mv ma ov (kindF F) w.heap.size (zeroCells kn (.slice none 0 0))) => by have := readAsk_calls w w1 kn h; rw [hr] at this; exact this)
  have HDn := Lib.hid (fun p mv ma ov (w1 : World) cs (pa : Nat) (h : RS w w1 p mv ma ov rF pa cs) => done_calls w1 h.form (by have := readAsk_order kn (kindF F); rw [hr, kindF_order] at this; simp only at this; rw [this]; exact HO.out))
  have HWh := Lib.hid (fun (w1 : World) c (hc : Ints w1 c ra.curve) => whole_calls w1 ra c hc)
  have b1 : (de == 0) = false := beq_eq_false_iff_ne.mpr hde
  have b1' : (de != 0) = true := by rw [bne, b1]; rfl
  rw [hd] at HDn
  clear hr hd
  clear hde HWh
  clear h hs hg hwd hkn
  go_enter Tryd.func8, Tryd.ntmps8
  go_wp2_with (first
    | (go_at_call 14; refine (HD.out _).mono ?_; rintro e w1 ⟨p, mv, ma, ov, rfl, hform, hp, hma, hb1⟩; go_must (rw [size_alloc] at hp hma; have hS : Hid (RS w w1 p mv ma ov F w.heap.size (zeroCells 0 (.slice none 0 0))) := Lib.hid ⟨hform, hb1.heap (heap_alloc_at w _), Keeps.of_ext (((Ext.refl w).alloc _).trans hb1) _, HV.out, HGl.out.ext (((Ext.refl w).alloc _).trans hb1), ⟨0, rfl⟩⟩; have hp' : w.heap.size ≤ p := (by omega); have hma' : w.heap.size ≤ ma := (by omega); clear hform hp hma hb1; have hq := hS.out.cell; have hz := hS.out.frozen))
    | (go_at_call 15; refine (hS.out.kindC).mono ?_; rw [HWd.out]; rintro e w2 ⟨rfl, hS2⟩; clear hS hq hz; have hS := Lib.hid hS2; have hq := hS2.cell; have hz := hS2.frozen; clear hS2))
  go_loopw [7] (fun v7 wr => ∃ k : Nat, v7 = .int .i64 ((k : Int) + 1) ∧ k ≤ 5 ∧ Hid (RS w wr p mv ma ov (kindF F) w.heap.size (zeroCells (kindUpto wd k) (.slice none 0 0)))) (fun v7 _ => 6 - (intOf v7).toNat)
  case atStart => exact ⟨0, rfl, by omega, hS⟩
  case round =>
    clear hS hq hz
    obtain ⟨k, rfl, hk, hS⟩ := hrel
    have hq := hS.out.cell
    have hz := hS.out.frozen
    by_cases hlt : k < 5
    · have b1 : (k : Int) + 1 ≤ 5 := by omega
      by_cases hw : kindOfB ((k : Int) + 1) = wd
      · have b2 : ((kindOfB ((k : Int) + 1)).toList == wd.toList) = true := by rw [← beq_toListBytes, ba_beq, hw]; simp
        have HU := Lib.hid (show kindUpto wd (k + 1) = (k : Int) + 1 by simp [kindUpto, hw])
        clear hw
        go_wp2_with (go_at_call 16; refine (HK.out _ _).mono ?_; rintro e w3 ⟨rfl, rfl⟩)
        go_roundw
        case rel => exact ⟨k + 1, by go_num, by omega, Lib.hid (by rw [HU.out]; exact hS.out.put0 hp' hma' (Nat.le_refl _) HGl.out _ (by simp) _ (by simp))⟩
        case measure => simp [intOf]; omega
      · have b2 : ((kindOfB ((k : Int) + 1)).toList == wd.toList) = false := by rw [← beq_toListBytes, ba_beq]; simpa using hw
        have HU := Lib.hid (show kindUpto wd (k + 1) = kindUpto wd k by simp [kindUpto, hw])
        clear hw
        go_wp2_with (go_at_call 16; refine (HK.out _ _).mono ?_; rintro e w3 ⟨rfl, rfl⟩)
        go_roundw
        case rel => exact ⟨k + 1, by go_num, by omega, Lib.hid (by rw [HU.out]; exact hS.out)⟩
        case measure => simp [intOf]; omega
    · obtain rfl : k = 5 := by omega
      rw [HKn.out] at hS hq
      go_wp2_with (first
        | (go_at_call 17; refine (HRd.out _ _ _ _ _ hS.out).mono ?_; rintro e w3 ⟨rfl, c, hS3, hc3⟩; go_must (clear hS hq hz; obtain ⟨cA, cc, rfl, _⟩ := SlAt.form hc3; have hS := Lib.hid hS3; have hq := hS3.cell; have hz := hS3.frozen; have hC := Lib.hid hc3; clear hS3 hc3))
        | (go_at_call 18; refine (HDn.out _ _ _ _ _ _ _ hS.out).mono ?_; rintro e w4 ⟨rfl, hb4⟩; go_must (have hS4 := hS.out.extd hb4; have hC4 := hC.out.ext hb4; clear hS hq hz hC; have hS := Lib.hid hS4; have hq := hS4.cell; have hz := hS4.frozen; have hC := Lib.hid hC4; clear hS4 hC4))
        | (go_at_call 19; refine (HWh.out _ _ hC.out).mono ?_; rintro e w5 ⟨rfl, hb5⟩; go_must (have hS5 := hS.out.extd hb5; have hC5 := hC.out.ext hb5; clear hS hq hz hC; have hS := Lib.hid hS5; have hq := hS5.cell; have hz := hS5.frozen; have hC := Lib.hid hC5; clear hS5 hC5)))
      have hh := set14_heap hS.out.blk (.int .i64 0) (.string ⟨#[]⟩) (.string ⟨#[]⟩) (.string ⟨#[]⟩) (.string ⟨#[]⟩) (.int .i64 0) (.int .i64 0) (.int .i64 0) (.int .i64 0) (.int .i64 0) (.int .i64 0) (.int .i64 0) (.int .i64 0) (.slice none 0 0)
      refine bodyPost_ret (v := .tuple #[.agg (zeroCells 0 (.slice none 0 0)), .int .i64 dt, .int .i64 de]) (by simp [results, Tryd.results8, go_sem, cell_of hh]) rfl ⟨.slice none 0 0, rfl, SlAt.nil _ _, ?_⟩
      exact set14_ext (hS.out.ext0 hp' hma' (Nat.le_refl _)) (Nat.le_refl _) _ _ _ _ _ _ _ _ _ _ _ _ _ _ 

set_option maxHeartbeats 8000000 in
theorem decode_whole (w : World) (s : ByteArray) (hs : s.size ≤ 4000000000) {F : FormS} (h : (readR s).form = some F) (hg : Glob w) {kn : Int} {wd : ByteArray} (hwd : wordF F = wd) (hkn : kindUpto wd 5 = kn) (h0 : kn ≠ 0) {ra : Ask} {rF : FormS} (hr : readAsk kn (kindF F) = (ra, rF)) {dt de : Int} (hd : doneR rF = (dt, de)) {wt we : Int} (hw : wholeR ra = (wt, we)) (hde : de = 0) (hwe : we ≠ 0) : Calls Tryd.prog 8 #[.string s] w (DecPost w ⟨zeroAsk 0, wt, we⟩) := by
  have HD := Lib.hid (fun W => read_some W s (by omega) h)
  have HV := Lib.hid (fun t v hv => Nat.le_trans (readR_vals (s := s) h t v hv) hs)
  have HO := Lib.hid (readR_order h)
  have HGl := Lib.hid hg
  have HK := Lib.hid (fun W k => kindOf_calls W k)
  have HWd := Lib.hid hwd
  have HKn := Lib.hid hkn
  have b0 : (kn == 0) = false := beq_eq_false_iff_ne.mpr h0
  clear h0
  have HRd := Lib.hid (fun p mv ma ov (w1 : World) (h : RS w w1 p mv ma ov (kindF F) w.heap.size (zeroCells kn (.slice none 0 0))) => by have := readAsk_calls w w1 kn h; rw [hr] at this; exact this)
  have HDn := Lib.hid (fun p mv ma ov (w1 : World) cs (pa : Nat) (h : RS w w1 p mv ma ov rF pa cs) => done_calls w1 h.form (by have := readAsk_order kn (kindF F); rw [hr, kindF_order] at this; simp only at this; rw [this]; exact HO.out))
  have HWh := Lib.hid (fun (w1 : World) c (hc : Ints w1 c ra.curve) => whole_calls w1 ra c hc)
  subst hde
  have b1 : (we != 0) = true := by rw [bne_iff_ne]; exact hwe
  rw [hd] at HDn
  clear hr hd
  rw [hw] at HWh
  clear hw hwe
  clear h hs hg hwd hkn
  go_enter Tryd.func8, Tryd.ntmps8
  go_wp2_with (first
    | (go_at_call 14; refine (HD.out _).mono ?_; rintro e w1 ⟨p, mv, ma, ov, rfl, hform, hp, hma, hb1⟩; go_must (rw [size_alloc] at hp hma; have hS : Hid (RS w w1 p mv ma ov F w.heap.size (zeroCells 0 (.slice none 0 0))) := Lib.hid ⟨hform, hb1.heap (heap_alloc_at w _), Keeps.of_ext (((Ext.refl w).alloc _).trans hb1) _, HV.out, HGl.out.ext (((Ext.refl w).alloc _).trans hb1), ⟨0, rfl⟩⟩; have hp' : w.heap.size ≤ p := (by omega); have hma' : w.heap.size ≤ ma := (by omega); clear hform hp hma hb1; have hq := hS.out.cell; have hz := hS.out.frozen))
    | (go_at_call 15; refine (hS.out.kindC).mono ?_; rw [HWd.out]; rintro e w2 ⟨rfl, hS2⟩; clear hS hq hz; have hS := Lib.hid hS2; have hq := hS2.cell; have hz := hS2.frozen; clear hS2))
  go_loopw [7] (fun v7 wr => ∃ k : Nat, v7 = .int .i64 ((k : Int) + 1) ∧ k ≤ 5 ∧ Hid (RS w wr p mv ma ov (kindF F) w.heap.size (zeroCells (kindUpto wd k) (.slice none 0 0)))) (fun v7 _ => 6 - (intOf v7).toNat)
  case atStart => exact ⟨0, rfl, by omega, hS⟩
  case round =>
    clear hS hq hz
    obtain ⟨k, rfl, hk, hS⟩ := hrel
    have hq := hS.out.cell
    have hz := hS.out.frozen
    by_cases hlt : k < 5
    · have b1 : (k : Int) + 1 ≤ 5 := by omega
      by_cases hw : kindOfB ((k : Int) + 1) = wd
      · have b2 : ((kindOfB ((k : Int) + 1)).toList == wd.toList) = true := by rw [← beq_toListBytes, ba_beq, hw]; simp
        have HU := Lib.hid (show kindUpto wd (k + 1) = (k : Int) + 1 by simp [kindUpto, hw])
        clear hw
        go_wp2_with (go_at_call 16; refine (HK.out _ _).mono ?_; rintro e w3 ⟨rfl, rfl⟩)
        go_roundw
        case rel => exact ⟨k + 1, by go_num, by omega, Lib.hid (by rw [HU.out]; exact hS.out.put0 hp' hma' (Nat.le_refl _) HGl.out _ (by simp) _ (by simp))⟩
        case measure => simp [intOf]; omega
      · have b2 : ((kindOfB ((k : Int) + 1)).toList == wd.toList) = false := by rw [← beq_toListBytes, ba_beq]; simpa using hw
        have HU := Lib.hid (show kindUpto wd (k + 1) = kindUpto wd k by simp [kindUpto, hw])
        clear hw
        go_wp2_with (go_at_call 16; refine (HK.out _ _).mono ?_; rintro e w3 ⟨rfl, rfl⟩)
        go_roundw
        case rel => exact ⟨k + 1, by go_num, by omega, Lib.hid (by rw [HU.out]; exact hS.out)⟩
        case measure => simp [intOf]; omega
    · obtain rfl : k = 5 := by omega
      rw [HKn.out] at hS hq
      go_wp2_with (first
        | (go_at_call 17; refine (HRd.out _ _ _ _ _ hS.out).mono ?_; rintro e w3 ⟨rfl, c, hS3, hc3⟩; go_must (clear hS hq hz; obtain ⟨cA, cc, rfl, _⟩ := SlAt.form hc3; have hS := Lib.hid hS3; have hq := hS3.cell; have hz := hS3.frozen; have hC := Lib.hid hc3; clear hS3 hc3))
        | (go_at_call 18; refine (HDn.out _ _ _ _ _ _ _ hS.out).mono ?_; rintro e w4 ⟨rfl, hb4⟩; go_must (have hS4 := hS.out.extd hb4; have hC4 := hC.out.ext hb4; clear hS hq hz hC; have hS := Lib.hid hS4; have hq := hS4.cell; have hz := hS4.frozen; have hC := Lib.hid hC4; clear hS4 hC4))
        | (go_at_call 19; refine (HWh.out _ _ hC.out).mono ?_; rintro e w5 ⟨rfl, hb5⟩; go_must (have hS5 := hS.out.extd hb5; have hC5 := hC.out.ext hb5; clear hS hq hz hC; have hS := Lib.hid hS5; have hq := hS5.cell; have hz := hS5.frozen; have hC := Lib.hid hC5; clear hS5 hC5)))
      have hh := set14_heap hS.out.blk (.int .i64 0) (.string ⟨#[]⟩) (.string ⟨#[]⟩) (.string ⟨#[]⟩) (.string ⟨#[]⟩) (.int .i64 0) (.int .i64 0) (.int .i64 0) (.int .i64 0) (.int .i64 0) (.int .i64 0) (.int .i64 0) (.int .i64 0) (.slice none 0 0)
      refine bodyPost_ret (v := .tuple #[.agg (zeroCells 0 (.slice none 0 0)), .int .i64 wt, .int .i64 we]) (by simp [results, Tryd.results8, go_sem, cell_of hh]) rfl ⟨.slice none 0 0, rfl, SlAt.nil _ _, ?_⟩
      exact set14_ext (hS.out.ext0 hp' hma' (Nat.le_refl _)) (Nat.le_refl _) _ _ _ _ _ _ _ _ _ _ _ _ _ _ 

set_option maxHeartbeats 8000000 in
theorem decode_good (w : World) (s : ByteArray) (hs : s.size ≤ 4000000000) {F : FormS} (h : (readR s).form = some F) (hg : Glob w) {kn : Int} {wd : ByteArray} (hwd : wordF F = wd) (hkn : kindUpto wd 5 = kn) (h0 : kn ≠ 0) {ra : Ask} {rF : FormS} (hr : readAsk kn (kindF F) = (ra, rF)) {dt de : Int} (hd : doneR rF = (dt, de)) {wt we : Int} (hw : wholeR ra = (wt, we)) (hde : de = 0) (hwe : we = 0) : Calls Tryd.prog 8 #[.string s] w (DecPost w ⟨ra, 0, 0⟩) := by
  have HD := Lib.hid (fun W => read_some W s (by omega) h)
  have HV := Lib.hid (fun t v hv => Nat.le_trans (readR_vals (s := s) h t v hv) hs)
  have HO := Lib.hid (readR_order h)
  have HGl := Lib.hid hg
  have HK := Lib.hid (fun W k => kindOf_calls W k)
  have HWd := Lib.hid hwd
  have HKn := Lib.hid hkn
  have b0 : (kn == 0) = false := beq_eq_false_iff_ne.mpr h0
  clear h0
  have HRd := Lib.hid (fun p mv ma ov (w1 : World) (h : RS w w1 p mv ma ov (kindF F) w.heap.size (zeroCells kn (.slice none 0 0))) => by have := readAsk_calls w w1 kn h; rw [hr] at this; exact this)
  have HDn := Lib.hid (fun p mv ma ov (w1 : World) cs (pa : Nat) (h : RS w w1 p mv ma ov rF pa cs) => done_calls w1 h.form (by have := readAsk_order kn (kindF F); rw [hr, kindF_order] at this; simp only at this; rw [this]; exact HO.out))
  have HWh := Lib.hid (fun (w1 : World) c (hc : Ints w1 c ra.curve) => whole_calls w1 ra c hc)
  subst hde hwe
  rw [hd] at HDn
  clear hr hd
  rw [hw] at HWh
  clear hw
  clear h hs hg hwd hkn
  go_enter Tryd.func8, Tryd.ntmps8
  go_wp2_with (first
    | (go_at_call 14; refine (HD.out _).mono ?_; rintro e w1 ⟨p, mv, ma, ov, rfl, hform, hp, hma, hb1⟩; go_must (rw [size_alloc] at hp hma; have hS : Hid (RS w w1 p mv ma ov F w.heap.size (zeroCells 0 (.slice none 0 0))) := Lib.hid ⟨hform, hb1.heap (heap_alloc_at w _), Keeps.of_ext (((Ext.refl w).alloc _).trans hb1) _, HV.out, HGl.out.ext (((Ext.refl w).alloc _).trans hb1), ⟨0, rfl⟩⟩; have hp' : w.heap.size ≤ p := (by omega); have hma' : w.heap.size ≤ ma := (by omega); clear hform hp hma hb1; have hq := hS.out.cell; have hz := hS.out.frozen))
    | (go_at_call 15; refine (hS.out.kindC).mono ?_; rw [HWd.out]; rintro e w2 ⟨rfl, hS2⟩; clear hS hq hz; have hS := Lib.hid hS2; have hq := hS2.cell; have hz := hS2.frozen; clear hS2))
  go_loopw [7] (fun v7 wr => ∃ k : Nat, v7 = .int .i64 ((k : Int) + 1) ∧ k ≤ 5 ∧ Hid (RS w wr p mv ma ov (kindF F) w.heap.size (zeroCells (kindUpto wd k) (.slice none 0 0)))) (fun v7 _ => 6 - (intOf v7).toNat)
  case atStart => exact ⟨0, rfl, by omega, hS⟩
  case round =>
    clear hS hq hz
    obtain ⟨k, rfl, hk, hS⟩ := hrel
    have hq := hS.out.cell
    have hz := hS.out.frozen
    by_cases hlt : k < 5
    · have b1 : (k : Int) + 1 ≤ 5 := by omega
      by_cases hw : kindOfB ((k : Int) + 1) = wd
      · have b2 : ((kindOfB ((k : Int) + 1)).toList == wd.toList) = true := by rw [← beq_toListBytes, ba_beq, hw]; simp
        have HU := Lib.hid (show kindUpto wd (k + 1) = (k : Int) + 1 by simp [kindUpto, hw])
        clear hw
        go_wp2_with (go_at_call 16; refine (HK.out _ _).mono ?_; rintro e w3 ⟨rfl, rfl⟩)
        go_roundw
        case rel => exact ⟨k + 1, by go_num, by omega, Lib.hid (by rw [HU.out]; exact hS.out.put0 hp' hma' (Nat.le_refl _) HGl.out _ (by simp) _ (by simp))⟩
        case measure => simp [intOf]; omega
      · have b2 : ((kindOfB ((k : Int) + 1)).toList == wd.toList) = false := by rw [← beq_toListBytes, ba_beq]; simpa using hw
        have HU := Lib.hid (show kindUpto wd (k + 1) = kindUpto wd k by simp [kindUpto, hw])
        clear hw
        go_wp2_with (go_at_call 16; refine (HK.out _ _).mono ?_; rintro e w3 ⟨rfl, rfl⟩)
        go_roundw
        case rel => exact ⟨k + 1, by go_num, by omega, Lib.hid (by rw [HU.out]; exact hS.out)⟩
        case measure => simp [intOf]; omega
    · obtain rfl : k = 5 := by omega
      rw [HKn.out] at hS hq
      go_wp2_with (first
        | (go_at_call 17; refine (HRd.out _ _ _ _ _ hS.out).mono ?_; rintro e w3 ⟨rfl, c, hS3, hc3⟩; go_must (clear hS hq hz; obtain ⟨cA, cc, rfl, _⟩ := SlAt.form hc3; have hS := Lib.hid hS3; have hq := hS3.cell; have hz := hS3.frozen; have hC := Lib.hid hc3; clear hS3 hc3))
        | (go_at_call 18; refine (HDn.out _ _ _ _ _ _ _ hS.out).mono ?_; rintro e w4 ⟨rfl, hb4⟩; go_must (have hS4 := hS.out.extd hb4; have hC4 := hC.out.ext hb4; clear hS hq hz hC; have hS := Lib.hid hS4; have hq := hS4.cell; have hz := hS4.frozen; have hC := Lib.hid hC4; clear hS4 hC4))
        | (go_at_call 19; refine (HWh.out _ _ hC.out).mono ?_; rintro e w5 ⟨rfl, hb5⟩; go_must (have hS5 := hS.out.extd hb5; have hC5 := hC.out.ext hb5; clear hS hq hz hC; have hS := Lib.hid hS5; have hq := hS5.cell; have hz := hS5.frozen; have hC := Lib.hid hC5; clear hS5 hC5)))
      have hh := set14_heap hS.out.blk (.int .i64 ra.kind) (.string ra.id) (.string ra.target) (.string ra.account) (.string ra.symbol) (.int .i64 ra.side) (.int .i64 ra.qty) (.int .i64 ra.price) (.int .i64 ra.algo) (.int .i64 ra.start) (.int .i64 ra.fin) (.int .i64 ra.rate) (.int .i64 ra.shown) (.slice cA ra.curve.length cc)
      refine bodyPost_ret (v := .tuple #[.agg (ra.cells (.slice cA ra.curve.length cc)), .int .i64 0, .int .i64 0]) (by simp [results, Tryd.results8, go_sem, cell_of hh]) rfl ⟨.slice cA ra.curve.length cc, rfl, ?_, ?_⟩
      · refine SlAt.keep hC.out (by rw [set14_size]; exact Nat.le_refl _) (fun A c' hA => ?_)
        by_cases hAb : A.block = w.heap.size
        · rw [hAb]; exact hh.trans hS.out.blk.symm
        · exact set14_ne _ hAb _ _ _ _ _ _ _ _ _ _ _ _ _ _ 
      · exact set14_ext (hS.out.ext0 hp' hma' (Nat.le_refl _)) (Nat.le_refl _) _ _ _ _ _ _ _ _ _ _ _ _ _ _ 

theorem decode_calls (w : World) (s : ByteArray) (hs : s.size ≤ 4000000000) (hg : Glob w) : Calls Tryd.prog 8 #[.string s] w (DecPost w (decR s)) := by
  unfold decR
  split
  · rename_i h
    exact decode_none w s hs h
  · rename_i F h
    unfold decF
    rcases hr : readAsk (kindNum (wordF F)) (kindF F) with ⟨ra, rF⟩
    rcases hd : doneR rF with ⟨dt, de⟩
    rcases hw : wholeR ra with ⟨wt, we⟩
    simp only [hd, hw]
    by_cases h0 : kindNum (wordF F) = 0
    · rw [if_pos h0]; exact decode_kind w s hs h hg rfl rfl h0
    · rw [if_neg h0]
      by_cases h1 : de = 0
      · rw [if_pos h1]
        by_cases h2 : we = 0
        · rw [if_pos h2]; exact decode_good w s hs h hg rfl rfl h0 hr hd hw h1 h2
        · rw [if_neg h2]; exact decode_whole w s hs h hg rfl rfl h0 hr hd hw h1 h2
      · rw [if_neg h1]; exact decode_done w s hs h hg rfl rfl h0 hr hd h1
end Go.Proofs.YtphnfbjbpbfpkaaDoor
