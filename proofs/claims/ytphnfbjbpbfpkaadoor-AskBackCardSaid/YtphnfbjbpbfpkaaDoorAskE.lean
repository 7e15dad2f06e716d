/- ask.fields: an ask's fields, in order. -/
import Derived.Test.YtphnfbjbpbfpkaaDoorAskD
import Derived.Deep.DeepCutAuto
namespace Go.Proofs.YtphnfbjbpbfpkaaDoor
open Go.RowKit
set_option maxRecDepth 100000

/-- The fields of an ask. -/
def midOf (a : Ask) : List Fld :=
  if a.algo = 2 then [⟨5006, numsText a.curve⟩] else if a.algo = 3 then [⟨5004, bytesOf (Lib.itoa a.rate)⟩] else if a.algo = 4 then [⟨5005, bytesOf (Lib.itoa a.shown)⟩] else []
def restOf (a : Ask) : List Fld :=
  if a.kind = 1 then [⟨1, a.account⟩, ⟨55, a.symbol⟩, ⟨54, bytesOf (Lib.itoa a.side)⟩, ⟨38, bytesOf (Lib.itoa a.qty)⟩, ⟨44, bytesOf (Lib.itoa a.price)⟩, ⟨5001, bytesOf (Lib.itoa a.algo)⟩, ⟨5002, bytesOf (Lib.itoa a.start)⟩, ⟨5003, bytesOf (Lib.itoa a.fin)⟩] ++ midOf a
  else if a.kind = 3 then [⟨41, a.target⟩, ⟨38, bytesOf (Lib.itoa a.qty)⟩, ⟨44, bytesOf (Lib.itoa a.price)⟩, ⟨5003, bytesOf (Lib.itoa a.fin)⟩]
  else [⟨41, a.target⟩]
def fieldsOf (a : Ask) : List Fld := [⟨35, kindOfB a.kind⟩, ⟨11, a.id⟩] ++ restOf a

/-- Every number of the ask is one of 64 bits. -/
structure Ask.I64 (a : Ask) : Prop where
  side : Go.Proofs.YtphnfbjbpbfpkaaDoor.I64 a.side
  qty : Go.Proofs.YtphnfbjbpbfpkaaDoor.I64 a.qty
  price : Go.Proofs.YtphnfbjbpbfpkaaDoor.I64 a.price
  algo : Go.Proofs.YtphnfbjbpbfpkaaDoor.I64 a.algo
  start : Go.Proofs.YtphnfbjbpbfpkaaDoor.I64 a.start
  fin : Go.Proofs.YtphnfbjbpbfpkaaDoor.I64 a.fin
  rate : Go.Proofs.YtphnfbjbpbfpkaaDoor.I64 a.rate
  shown : Go.Proofs.YtphnfbjbpbfpkaaDoor.I64 a.shown
  curve : ∀ n ∈ a.curve, Go.Proofs.YtphnfbjbpbfpkaaDoor.I64 n

/-- In the midst of ask.fields: the list so far, and the ask's own box. -/
structure FW (W w : World) (bo p : Nat) (cs : Array Value) (l : List Fld) : Prop where
  acc : Acc W.heap.size w bo l
  box : w.heap[p]? = some (.cells cs 24 (0, 0))
  ext : Ext W w
  ne : p ≠ bo
theorem FW.cell {W w : World} {bo p : Nat} {cs : Array Value} {l : List Fld} (h : FW W w bo p cs l) (i : Nat) : w.cell? ⟨p, i, none⟩ = cs[i]? := cell_of h.box
theorem FW.next {W w w' : World} {bo p : Nat} {cs : Array Value} {l : List Fld} {f : Fld} (h : FW W w bo p cs l) (ha : Acc W.heap.size w' bo (l ++ [f])) (hp : Puts W.heap.size bo w w') : FW W w' bo p cs (l ++ [f]) :=
  ⟨ha, hp.others _ _ _ _ h.box (by decide) h.ne, Below.trans h.ext hp.below, h.ne⟩
theorem FW.putS {W w : World} {bo p : Nat} {cs : Array Value} {l : List Fld} (h : FW W w bo p cs l) (hl : l.length ≤ 100) (t : Int) (s : ByteArray) :
    Calls Tryd.prog 28 #[.int .i64 t, .iface 9 (.string s), .pointer (some ⟨bo, 0, none⟩)] w fun e w' => e = .returned (.tuple #[]) ∧ FW W w' bo p cs (l ++ [⟨t, s⟩]) :=
  (put_calls _ w bo l h.acc hl h.ext.size t _ s (fun W' _ => textS_calls W' s)).mono (fun e w' ⟨he, ha, hp⟩ => ⟨he, h.next ha hp⟩)
theorem FW.putI {W w : World} {bo p : Nat} {cs : Array Value} {l : List Fld} (h : FW W w bo p cs l) (hg : Glob W) (hl : l.length ≤ 100) (t n : Int) (hn : I64 n) :
    Calls Tryd.prog 28 #[.int .i64 t, .iface 3 (.int .i64 n), .pointer (some ⟨bo, 0, none⟩)] w fun e w' => e = .returned (.tuple #[]) ∧ FW W w' bo p cs (l ++ [⟨t, bytesOf (Lib.itoa n)⟩]) :=
  (put_calls _ w bo l h.acc hl h.ext.size t _ _ (fun W' hW => textI_calls W' n hn (hg.ext (h.ext.trans hW)))).mono (fun e w' ⟨he, ha, hp⟩ => ⟨he, h.next ha hp⟩)
theorem FW.putL {W w : World} {bo p : Nat} {cs : Array Value} {l : List Fld} (h : FW W w bo p cs l) (hg : Glob W) (hl : l.length ≤ 100) (t : Int) (v : Value) (c : List Int) (hv : Ints W v c) (hc : c.length ≤ 1000) (hr : ∀ n ∈ c, I64 n) :
    Calls Tryd.prog 28 #[.int .i64 t, .iface 22 v, .pointer (some ⟨bo, 0, none⟩)] w fun e w' => e = .returned (.tuple #[]) ∧ FW W w' bo p cs (l ++ [⟨t, numsText c⟩]) :=
  (put_calls _ w bo l h.acc hl h.ext.size t _ _ (fun W' hW => textL_calls W' v c (hv.ext (h.ext.trans hW)) hc hr (hg.ext (h.ext.trans hW)))).mono (fun e w' ⟨he, ha, hp⟩ => ⟨he, h.next ha hp⟩)

theorem FW.var {W w : World} {bo p : Nat} {cs : Array Value} {l : List Fld} (h : FW W w bo p cs l) : ∃ ov, w.cell? ⟨bo, 0, none⟩ = some ov ∧ Hid (Flds w ov l) := by
  obtain ⟨ov, hb, ho⟩ := h.acc.lies
  exact ⟨ov, cell_of hb, Lib.hid (SlAt.of_own ho)⟩
theorem heap3 (w : World) (x y z : Obj) : (((w.alloc x).alloc y).alloc z).drew.heap[w.heap.size]? = some x ∧ (((w.alloc x).alloc y).alloc z).drew.heap[w.heap.size + 1]? = some y ∧ (((w.alloc x).alloc y).alloc z).drew.heap[w.heap.size + 1 + 1]? = some z := by
  refine ⟨?_, ?_, ?_⟩
  · exact (heap_alloc_lt _ _ (by rw [size_alloc, size_alloc]; omega)).trans ((heap_alloc_lt _ _ (by rw [size_alloc]; omega)).trans (heap_alloc_at _ _))
  · refine (heap_alloc_lt _ _ (by rw [size_alloc, size_alloc]; omega)).trans ?_
    have := heap_alloc_at (w.alloc x) y
    rwa [size_alloc] at this
  · have := heap_alloc_at ((w.alloc x).alloc y) z
    rw [size_alloc, size_alloc] at this
    exact this
theorem two_own {w : World} {B g : Nat} {t1 t2 : Int} {s1 s2 : ByteArray} (hB : B ≤ g) (h : w.heap[g]? = some (.cells #[.int .i64 t1, .string s1, .int .i64 t2, .string s2] 55 (0, 0))) :
    w.ownsRow B 55 2 (.slice (some ⟨g, 0, none⟩) 2 2) ([⟨t1, s1⟩, ⟨t2, s2⟩] : List Fld).length (fcells [⟨t1, s1⟩, ⟨t2, s2⟩]) :=
  ⟨rfl, .inr ⟨g, 2, _, rfl, hB, h, Nat.le_refl _, by show (2 : Nat) ≤ _; unfold maxLen; decide, rfl, rfl⟩⟩
theorem FW.first1 (w : World) (cs : Array Value) (t1 t2 : Int) (s1 s2 : ByteArray) :
    FW w (((w.alloc (.cells cs 24)).alloc (.cells #[.int .i64 t1, .string s1, .int .i64 t2, .string s2] 55)).alloc (.cells #[.slice (some ⟨w.heap.size + 1, 0, none⟩) 2 2] 37)).drew (w.heap.size + 1 + 1) w.heap.size cs [⟨t1, s1⟩, ⟨t2, s2⟩] := by
  obtain ⟨h1, h2, h3⟩ := heap3 w (.cells cs 24) (.cells #[.int .i64 t1, .string s1, .int .i64 t2, .string s2] 55) (.cells #[.slice (some ⟨w.heap.size + 1, 0, none⟩) 2 2] 37)
  exact ⟨⟨⟨_, h3, two_own (by omega) h2⟩, by omega⟩, h1, ((((Ext.refl w).alloc _).alloc _).alloc _).drew, by omega⟩
theorem FW.first2 (w : World) (cs : Array Value) (t1 t2 : Int) (s1 s2 : ByteArray) :
    FW w (((w.alloc (.cells cs 24)).alloc (.cells #[.slice (some ⟨w.heap.size + 1 + 1, 0, none⟩) 2 2] 37)).alloc (.cells #[.int .i64 t1, .string s1, .int .i64 t2, .string s2] 55)).drew (w.heap.size + 1) w.heap.size cs [⟨t1, s1⟩, ⟨t2, s2⟩] := by
  obtain ⟨h1, h2, h3⟩ := heap3 w (.cells cs 24) (.cells #[.slice (some ⟨w.heap.size + 1 + 1, 0, none⟩) 2 2] 37) (.cells #[.int .i64 t1, .string s1, .int .i64 t2, .string s2] 55)
  exact ⟨⟨⟨_, h2, two_own (by omega) h3⟩, by omega⟩, h1, ((((Ext.refl w).alloc _).alloc _).alloc _).drew, by omega⟩

def FieldsOfPost (w : World) (a : Ask) (e : Ending) (w' : World) : Prop := ∃ v, e = .returned v ∧ Flds w' v (fieldsOf a) ∧ Ext w w'

set_option maxHeartbeats 8000000 in
theorem fields_of_calls (w : World) (a : Ask) (c : Value) (hc : Ints w c a.curve) (hlen : a.curve.length ≤ 1000) (hi : a.I64) (hg : Glob w) :
    Calls Tryd.prog 13 #[.agg (a.cells c)] w (FieldsOfPost w a) := by
  have HS := Lib.hid (fun (w1 : World) bo p cs l (h : FW w w1 bo p cs l) => h.putS)
  have HI := Lib.hid (fun (w1 : World) bo p cs l (h : FW w w1 bo p cs l) => h.putI hg)
  have HL := Lib.hid (fun (w1 : World) bo p cs l (h : FW w w1 bo p cs l) (hl : l.length ≤ 100) => h.putL hg hl 5006 c a.curve hc hlen hi.curve)
  have HN := Lib.hid hi
  obtain ⟨A, cap, rfl, _⟩ := SlAt.form hc
  clear hc hi hg
  go_enter Tryd.func13, Tryd.ntmps13
  go_upto_region 1 with (fail)
  go_cut [3] (fun s3 wx => ∃ bo, s3 = .pointer (some ⟨bo, 0, none⟩) ∧ Hid (FW w wx bo w.heap.size (a.cells (.slice A a.curve.length cap)) [⟨35, kindOfB a.kind⟩, ⟨11, a.id⟩]))
  case first =>
    go_region_with (go_at_call 16; refine (kindOf_calls _ _).mono ?_; rintro e w1 ⟨rfl, rfl⟩)
    all_goals (go_wp2_with fail; go_meet; first | exact ⟨_, rfl, Lib.hid (FW.first1 _ _ _ _ _ _)⟩ | exact ⟨_, rfl, Lib.hid (FW.first2 _ _ _ _ _ _)⟩)
  case rest =>
    obtain ⟨bo, rfl, hF⟩ := hcut
    have hq := hF.out.cell
    obtain ⟨ov, hv, hf⟩ := hF.out.var
    have key := Lib.hid (show ∀ (l : List Fld) (w' : World) (ov : Value), Hid (fieldsOf a = l) → FW w w' bo w.heap.size (a.cells (.slice A a.curve.length cap)) l → Hid (Flds w' ov l) → FieldsOfPost w a (.returned ov) w' from
      fun l w' ov h1 h2 h3 => ⟨ov, rfl, by rw [h1.out]; exact h3.out, h2.ext⟩)
    by_cases k1 : a.kind = 1
    · have K1 := Lib.hid k1
      have b1 : (a.kind == 1) = true := beq_iff_eq.mpr k1
      clear k1
      by_cases k2 : a.algo = 2
      · have K2 := Lib.hid k2
        have b2 : (a.algo == 2) = true := beq_iff_eq.mpr k2
        clear k2
        go_wp2_with (go_at_call 28; first
          | (with_reducible refine (HS.out _ _ _ _ _ hF.out (by simp) _ _).mono ?_; rintro e wn ⟨rfl, hFn⟩; clear hq hF hf hv; have hq := hFn.cell; obtain ⟨ov, hv, hf⟩ := hFn.var; have hF := Lib.hid hFn; clear hFn)
          | (with_reducible refine (HI.out _ _ _ _ _ hF.out (by simp) _ _ (by first | exact HN.out.qty | exact HN.out.price | exact HN.out.fin | exact HN.out.side | exact HN.out.algo | exact HN.out.start | exact HN.out.rate | exact HN.out.shown)).mono ?_; rintro e wn ⟨rfl, hFn⟩; clear hq hF hf hv; have hq := hFn.cell; obtain ⟨ov, hv, hf⟩ := hFn.var; have hF := Lib.hid hFn; clear hFn)
          | (with_reducible refine (HL.out _ _ _ _ _ hF.out (by simp)).mono ?_; rintro e wn ⟨rfl, hFn⟩; clear hq hF hf hv; have hq := hFn.cell; obtain ⟨ov, hv, hf⟩ := hFn.var; have hF := Lib.hid hFn; clear hFn))
        go_ret
        refine key.out _ _ _ (Lib.hid ?_) hF.out hf
        simp [fieldsOf, restOf, midOf, K1.out, K2.out]
      by_cases k3 : a.algo = 3
      · have K2 := Lib.hid k2
        have K3 := Lib.hid k3
        have b2 : (a.algo == 2) = false := beq_eq_false_iff_ne.mpr k2
        have b3 : (a.algo == 3) = true := beq_iff_eq.mpr k3
        clear k2 k3
        go_wp2_with (go_at_call 28; first
          | (with_reducible refine (HS.out _ _ _ _ _ hF.out (by simp) _ _).mono ?_; rintro e wn ⟨rfl, hFn⟩; clear hq hF hf hv; have hq := hFn.cell; obtain ⟨ov, hv, hf⟩ := hFn.var; have hF := Lib.hid hFn; clear hFn)
          | (with_reducible refine (HI.out _ _ _ _ _ hF.out (by simp) _ _ (by first | exact HN.out.qty | exact HN.out.price | exact HN.out.fin | exact HN.out.side | exact HN.out.algo | exact HN.out.start | exact HN.out.rate | exact HN.out.shown)).mono ?_; rintro e wn ⟨rfl, hFn⟩; clear hq hF hf hv; have hq := hFn.cell; obtain ⟨ov, hv, hf⟩ := hFn.var; have hF := Lib.hid hFn; clear hFn)
          | (with_reducible refine (HL.out _ _ _ _ _ hF.out (by simp)).mono ?_; rintro e wn ⟨rfl, hFn⟩; clear hq hF hf hv; have hq := hFn.cell; obtain ⟨ov, hv, hf⟩ := hFn.var; have hF := Lib.hid hFn; clear hFn))
        go_ret
        refine key.out _ _ _ (Lib.hid ?_) hF.out hf
        simp [fieldsOf, restOf, midOf, K1.out, K2.out, K3.out]
      by_cases k4 : a.algo = 4
      · have K2 := Lib.hid k2
        have K3 := Lib.hid k3
        have K4 := Lib.hid k4
        have b2 : (a.algo == 2) = false := beq_eq_false_iff_ne.mpr k2
        have b3 : (a.algo == 3) = false := beq_eq_false_iff_ne.mpr k3
        have b4 : (a.algo == 4) = true := beq_iff_eq.mpr k4
        clear k2 k3 k4
        go_wp2_with (go_at_call 28; first
          | (with_reducible refine (HS.out _ _ _ _ _ hF.out (by simp) _ _).mono ?_; rintro e wn ⟨rfl, hFn⟩; clear hq hF hf hv; have hq := hFn.cell; obtain ⟨ov, hv, hf⟩ := hFn.var; have hF := Lib.hid hFn; clear hFn)
          | (with_reducible refine (HI.out _ _ _ _ _ hF.out (by simp) _ _ (by first | exact HN.out.qty | exact HN.out.price | exact HN.out.fin | exact HN.out.side | exact HN.out.algo | exact HN.out.start | exact HN.out.rate | exact HN.out.shown)).mono ?_; rintro e wn ⟨rfl, hFn⟩; clear hq hF hf hv; have hq := hFn.cell; obtain ⟨ov, hv, hf⟩ := hFn.var; have hF := Lib.hid hFn; clear hFn)
          | (with_reducible refine (HL.out _ _ _ _ _ hF.out (by simp)).mono ?_; rintro e wn ⟨rfl, hFn⟩; clear hq hF hf hv; have hq := hFn.cell; obtain ⟨ov, hv, hf⟩ := hFn.var; have hF := Lib.hid hFn; clear hFn))
        go_ret
        refine key.out _ _ _ (Lib.hid ?_) hF.out hf
        simp [fieldsOf, restOf, midOf, K1.out, K2.out, K3.out, K4.out]
      · have K2 := Lib.hid k2
        have K3 := Lib.hid k3
        have K4 := Lib.hid k4
        have b2 : (a.algo == 2) = false := beq_eq_false_iff_ne.mpr k2
        have b3 : (a.algo == 3) = false := beq_eq_false_iff_ne.mpr k3
        have b4 : (a.algo == 4) = false := beq_eq_false_iff_ne.mpr k4
        clear k2 k3 k4
        go_wp2_with (go_at_call 28; first
          | (with_reducible refine (HS.out _ _ _ _ _ hF.out (by simp) _ _).mono ?_; rintro e wn ⟨rfl, hFn⟩; clear hq hF hf hv; have hq := hFn.cell; obtain ⟨ov, hv, hf⟩ := hFn.var; have hF := Lib.hid hFn; clear hFn)
          | (with_reducible refine (HI.out _ _ _ _ _ hF.out (by simp) _ _ (by first | exact HN.out.qty | exact HN.out.price | exact HN.out.fin | exact HN.out.side | exact HN.out.algo | exact HN.out.start | exact HN.out.rate | exact HN.out.shown)).mono ?_; rintro e wn ⟨rfl, hFn⟩; clear hq hF hf hv; have hq := hFn.cell; obtain ⟨ov, hv, hf⟩ := hFn.var; have hF := Lib.hid hFn; clear hFn)
          | (with_reducible refine (HL.out _ _ _ _ _ hF.out (by simp)).mono ?_; rintro e wn ⟨rfl, hFn⟩; clear hq hF hf hv; have hq := hFn.cell; obtain ⟨ov, hv, hf⟩ := hFn.var; have hF := Lib.hid hFn; clear hFn))
        go_ret
        refine key.out _ _ _ (Lib.hid ?_) hF.out hf
        simp [fieldsOf, restOf, midOf, K1.out, K2.out, K3.out, K4.out]
    by_cases k3 : a.kind = 3
    · have K1 := Lib.hid k1
      have K3 := Lib.hid k3
      have b1 : (a.kind == 1) = false := beq_eq_false_iff_ne.mpr k1
      have b3 : (a.kind == 3) = true := beq_iff_eq.mpr k3
      clear k1 k3
      go_wp2_with (go_at_call 28; first
        | (with_reducible refine (HS.out _ _ _ _ _ hF.out (by simp) _ _).mono ?_; rintro e wn ⟨rfl, hFn⟩; clear hq hF hf hv; have hq := hFn.cell; obtain ⟨ov, hv, hf⟩ := hFn.var; have hF := Lib.hid hFn; clear hFn)
        | (with_reducible refine (HI.out _ _ _ _ _ hF.out (by simp) _ _ (by first | exact HN.out.qty | exact HN.out.price | exact HN.out.fin | exact HN.out.side | exact HN.out.algo | exact HN.out.start | exact HN.out.rate | exact HN.out.shown)).mono ?_; rintro e wn ⟨rfl, hFn⟩; clear hq hF hf hv; have hq := hFn.cell; obtain ⟨ov, hv, hf⟩ := hFn.var; have hF := Lib.hid hFn; clear hFn)
        | (with_reducible refine (HL.out _ _ _ _ _ hF.out (by simp)).mono ?_; rintro e wn ⟨rfl, hFn⟩; clear hq hF hf hv; have hq := hFn.cell; obtain ⟨ov, hv, hf⟩ := hFn.var; have hF := Lib.hid hFn; clear hFn))
      go_ret
      refine key.out _ _ _ (Lib.hid ?_) hF.out hf
      simp [fieldsOf, restOf, midOf, K1.out, K3.out]
    · have K1 := Lib.hid k1
      have K3 := Lib.hid k3
      have b1 : (a.kind == 1) = false := beq_eq_false_iff_ne.mpr k1
      have b3 : (a.kind == 3) = false := beq_eq_false_iff_ne.mpr k3
      clear k1 k3
      go_wp2_with (go_at_call 28; first
        | (with_reducible refine (HS.out _ _ _ _ _ hF.out (by simp) _ _).mono ?_; rintro e wn ⟨rfl, hFn⟩; clear hq hF hf hv; have hq := hFn.cell; obtain ⟨ov, hv, hf⟩ := hFn.var; have hF := Lib.hid hFn; clear hFn)
        | (with_reducible refine (HI.out _ _ _ _ _ hF.out (by simp) _ _ (by first | exact HN.out.qty | exact HN.out.price | exact HN.out.fin | exact HN.out.side | exact HN.out.algo | exact HN.out.start | exact HN.out.rate | exact HN.out.shown)).mono ?_; rintro e wn ⟨rfl, hFn⟩; clear hq hF hf hv; have hq := hFn.cell; obtain ⟨ov, hv, hf⟩ := hFn.var; have hF := Lib.hid hFn; clear hFn)
        | (with_reducible refine (HL.out _ _ _ _ _ hF.out (by simp)).mono ?_; rintro e wn ⟨rfl, hFn⟩; clear hq hF hf hv; have hq := hFn.cell; obtain ⟨ov, hv, hf⟩ := hFn.var; have hF := Lib.hid hFn; clear hFn))
      go_ret
      refine key.out _ _ _ (Lib.hid ?_) hF.out hf
      simp [fieldsOf, restOf, midOf, K1.out, K3.out]
end Go.Proofs.YtphnfbjbpbfpkaaDoor
