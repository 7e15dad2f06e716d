/- The laws: awake, AskBack, AskSound. -/
import Derived.Test.YtphnfbjbpbfpkaaDoorPlainG
import Derived.Lib.QuietBelow
import Derived.Deep.DeepCutAuto
namespace Go.Proofs.YtphnfbjbpbfpkaaDoor
open Go.RowKit
set_option maxRecDepth 100000
attribute [local irreducible] Utf8.encode

def awk : Ask := ⟨2, ⟨#[98]⟩, ⟨#[97]⟩, ⟨#[]⟩, ⟨#[]⟩, 0, 0, 0, 0, 0, 0, 0, 0, []⟩
theorem valid_one (d : UInt8) (h : d.toNat < 128) (hm : mayB d.toNat = true) : validB ⟨#[d]⟩ = true := by
  unfold validB
  rw [runesAt_L]
  show validL (runesL [d] 0) 0 = true
  rw [runesL_ascii d [] 0 h, runesL_nil]
  simp [validL, hm]
theorem awk_right : rightB awk = true := by
  have h1 := valid_one 98 (by decide) (by decide)
  have h2 := valid_one 97 (by decide) (by decide)
  unfold rightB awk
  simp [h1, h2, bareB, emptyB_nil]
theorem awk_enc : encS awk = ⟨#[51, 53, 61, 70, 1, 49, 49, 61, 98, 1, 52, 49, 61, 97, 1]⟩ := by
  rw [(right_encE awk_right).2]
  have e1 : Lib.itoa 35 = [51, 53] := by rw [show (35 : Int) = ((35 : Nat) : Int) from rfl, Lib.itoa_nonneg, Lib.decDigits_two (by decide) (by decide)]; rfl
  have e2 : Lib.itoa 11 = [49, 49] := by rw [show (11 : Int) = ((11 : Nat) : Int) from rfl, Lib.itoa_nonneg, Lib.decDigits_two (by decide) (by decide)]; rfl
  have e3 : Lib.itoa 41 = [52, 49] := by rw [show (41 : Int) = ((41 : Nat) : Int) from rfl, Lib.itoa_nonneg, Lib.decDigits_two (by decide) (by decide)]; rfl
  have : formsL (fieldsOf awk) = [51, 53, 61, 70, 1, 49, 49, 61, 98, 1, 52, 49, 61, 97, 1] := by
    simp [formsL, fieldsOf, restOf, awk, formOf, e1, e2, e3, kindOfB]
  rw [this]
  rfl
theorem decode_right {W : World} {a : Ask} (h : rightB a = true) (hg : Glob W) : Calls Tryd.prog 8 #[.string (encS a)] W (DecPost W ⟨a, 0, 0⟩) := by
  have := decode_calls W (encS a) (by have := encS_size a; omega) hg
  rwa [right_dec h] at this
theorem encode_right {W : World} {a : Ask} (h : rightB a = true) {c : Value} (hc : Ints W c a.curve) (hg : Glob W) : Calls Tryd.prog 7 #[.agg (a.cells c)] W fun e w' => e = .returned (.tuple #[.string (encS a), .int .i64 0]) ∧ Ext W w' := by
  have := encode_calls W a c hc hg (fun h => right_I64 h) (fun h => by have := right_curve h; omega) (fun h => right_vals h)
  rwa [(right_encE h).1] at this
theorem encode_wrong {W : World} {a : Ask} (h : rightB a = false) {c : Value} (hc : Ints W c a.curve) (hg : Glob W) : Calls Tryd.prog 7 #[.agg (a.cells c)] W fun e w' => e = .returned (.tuple #[.string ⟨#[]⟩, .int .i64 2]) ∧ Ext W w' := by
  have := encode_calls W a c hc hg (fun h => right_I64 h) (fun h => by have := right_curve h; omega) (fun h => right_vals h)
  rwa [show encS a = ⟨#[]⟩ by simp [encS, h], show encE a = 2 by simp [encE, h]] at this

theorem awk_t : (awk.target.toList == [97]) = true := by simp [awk, ByteArray.toList_eq]
set_option maxHeartbeats 4000000 in
theorem awake_calls (w : World) (hg : Glob w) : Calls Tryd.prog 5 #[] w fun e w' => e = .returned (.bool true) ∧ Ext w w' := by
  have HE := Lib.hid (fun (W : World) (hW : Ext w W) => encode_right awk_right (SlAt.nil W 1) (hg.ext hW))
  have HD := Lib.hid (fun (W : World) (hW : Ext w W) => decode_right awk_right (hg.ext hW))
  rw [awk_enc] at HE HD
  go_enter Tryd.func5, Tryd.ntmps5
  go_wp2_with (first
    | (go_at_call 7; refine (HE.out _ (Ext.refl w)).mono ?_; rintro e w1 ⟨rfl, hb1⟩; obtain ⟨hcc, hff⟩ := hb1.cells)
    | (go_at_call 8; refine (HD.out _ hb1).mono ?_; rintro e w2 ⟨c, rfl, hc, hb2⟩; go_must (obtain ⟨A, cap, rfl, _⟩ := SlAt.form hc; clear hcc hff)))
  go_ret
  exact ⟨by rw [awk_t]; rfl, (hb1.trans hb2).alloc _⟩

set_option maxHeartbeats 8000000 in
/-- The law's last line: all of it holds. -/
theorem ask_regrown {w W : World} (hx : Ext w W) {a : Ask} {v1 v2 : Value} {b1 b2 : Nat} (h1 : W.heap[b1]? = some (.cells (a.cells v1) 24 (0, 0))) (h2 : W.heap[b2]? = some (.cells (a.cells v2) 24 (0, 0))) (i1 : Ints W v1 a.curve) (i2 : Ints W v2 a.curve) (hl : a.curve.length ≤ 64) :
    (∀ i d os, (Sort.grow (redrawn W d) os).cell? ⟨b1, i, none⟩ = (a.cells v1)[i]?) ∧ (∀ i d os, (Sort.grow (redrawn W d) os).cell? ⟨b2, i, none⟩ = (a.cells v2)[i]?) ∧
    (∀ d os, Calls Tryd.prog 11 #[.agg (a.cells v1)] (Sort.grow (redrawn W d) os) fun e w'' => e = .returned (.agg (a.cells v1)) ∧ ∃ p : Regrown, w'' = Sort.grow (redrawn W p.d) p.os) ∧
    (∀ d os, Calls Tryd.prog 11 #[.agg (a.cells v2)] (Sort.grow (redrawn W d) os) fun e w'' => e = .returned (.agg (a.cells v2)) ∧ ∃ p : Regrown, w'' = Sort.grow (redrawn W p.d) p.os) ∧
    (∀ d os, Calls Tryd.prog 10 #[.agg (a.cells v1), .agg (a.cells v2)] (Sort.grow (redrawn W d) os) fun e w'' => e = .returned (.bool true) ∧ ∃ p : Regrown, w'' = Sort.grow (redrawn W p.d) p.os) ∧
    (∀ d os, Calls Tryd.prog 10 #[.agg (a.cells v2), .agg (a.cells v1)] (Sort.grow (redrawn W d) os) fun e w'' => e = .returned (.bool true) ∧ ∃ p : Regrown, w'' = Sort.grow (redrawn W p.d) p.os) := by
  have hr : ∀ d os, Ext W (Sort.grow (redrawn W d) os) := fun d os => below_regrown W d os
  refine ⟨fun i d os => ?_, fun i d os => ?_, fun d os => Calls.regrown_of (plain_calls _ a v1 (i1.ext (hr d os))), fun d os => Calls.regrown_of (plain_calls _ a v2 (i2.ext (hr d os))), fun d os => Calls.regrown_of (same_calls _ a v1 v2 (i1.ext (hr d os)) (i2.ext (hr d os)) (by omega)), fun d os => Calls.regrown_of (same_calls _ a v2 v1 (i2.ext (hr d os)) (i1.ext (hr d os)) (by omega))⟩
  · rw [(below_regrown W d os).cell (p := ⟨b1, i, none⟩) (heap_lt h1), cell_of h1]
  · rw [(below_regrown W d os).cell (p := ⟨b2, i, none⟩) (heap_lt h2), cell_of h2]

set_option maxHeartbeats 8000000 in
theorem back_calls (w : World) (a : Ask) (c : Value) (hc : Ints w c a.curve) (hg : Glob w) : Calls Tryd.prog 3 #[.agg (a.cells c)] w fun e w' => e = .returned (.bool true) ∧ Ext w w' := by
  have HI := Lib.hid hc
  have HGl := Lib.hid hg
  have HA := Lib.hid (fun (W : World) (hW : Ext w W) => awake_calls W (hg.ext hW))
  have HF := Lib.hid (fun (W : World) (hW : Ext w W) => few_calls W a c (hc.ext hW))
  obtain ⟨A, cap, rfl, _⟩ := SlAt.form hc
  have hx0 := (Ext.refl w).alloc (.cells (a.cells (.slice A a.curve.length cap)) 24)
  cases hfew : fewB a
  · rw [hfew] at HF
    clear hc hg hfew
    go_enter Tryd.func3, Tryd.ntmps3
    go_wp2_with (first
      | (go_at_call 5; refine (HA.out _ hx0).mono ?_; rintro e w1 ⟨rfl, hb1⟩; obtain ⟨hcc, hff⟩ := hb1.cells)
      | (go_at_call 6; refine (HF.out _ (hx0.trans hb1)).mono ?_; rintro e w2 ⟨rfl, hb2⟩))
    go_ret
    exact ⟨rfl, (hx0.trans hb1).trans hb2⟩
  rw [hfew] at HF
  cases hr : rightB a
  · have HE := Lib.hid (fun (W : World) (hW : Ext w W) => encode_wrong hr (hc.ext hW) (hg.ext hW))
    clear hc hg hfew hr
    go_enter Tryd.func3, Tryd.ntmps3
    go_wp2_with (first
      | (go_at_call 5; refine (HA.out _ hx0).mono ?_; rintro e w1 ⟨rfl, hb1⟩; obtain ⟨hcc, hff⟩ := hb1.cells)
      | (go_at_call 6; refine (HF.out _ (hx0.trans hb1)).mono ?_; rintro e w2 ⟨rfl, hb2⟩; have hb12 := hb1.trans hb2; clear hcc hff; obtain ⟨hcc, hff⟩ := hb12.cells)
      | (go_at_call 7; refine (HE.out _ (hx0.trans hb12)).mono ?_; rintro e w3 ⟨rfl, hb3⟩))
    go_ret
    exact ⟨rfl, (hx0.trans hb12).trans hb3⟩
  · have HE := Lib.hid (fun (W : World) (hW : Ext w W) => encode_right hr (hc.ext hW) (hg.ext hW))
    have HD := Lib.hid (fun (W : World) (hW : Ext w W) => decode_right hr (hg.ext hW))
    have HR := Lib.hid (fun (W : World) (hW : Ext w W) => right_calls W a _ (hc.ext hW))
    rw [hr] at HR
    clear hc hg hfew
    go_enter Tryd.func3, Tryd.ntmps3
    go_upto_region 9 with (first
      | (go_at_call 5; refine (HA.out _ hx0).mono ?_; rintro e w1 ⟨rfl, hb1⟩; obtain ⟨hcc, hff⟩ := hb1.cells)
      | (go_at_call 6; refine (HF.out _ (hx0.trans hb1)).mono ?_; rintro e w2 ⟨rfl, hb2⟩; have hb12 := hb1.trans hb2; clear hcc hff; obtain ⟨hcc, hff⟩ := hb12.cells)
      | (go_at_call 7; refine (HE.out _ (hx0.trans hb12)).mono ?_; rintro e w3 ⟨rfl, hb3⟩)
      | (go_at_call 8; refine (HD.out _ ((hx0.trans hb12).trans hb3)).mono ?_; rintro e w4 ⟨c2, rfl, hc2, hb4⟩; go_must (obtain ⟨A2, cap2, rfl, _⟩ := SlAt.form hc2; clear hcc hff; have HI2 := Lib.hid hc2; clear hc2)))
    have hx4 : Ext w w4 := ((hx0.trans hb12).trans hb3).trans hb4
    have hx9 : Ext w (w4.alloc (.cells (a.cells (.slice A2 a.curve.length cap2)) 24)) := hx4.alloc _
    have box1 : (w4.alloc (.cells (a.cells (.slice A2 a.curve.length cap2)) 24)).heap[w.heap.size]? = _ := ((Ext.refl w4).alloc _).heap (hb4.heap (hb3.heap (hb12.heap (heap_alloc_at w _))))
    have box2 := heap_alloc_at w4 (.cells (a.cells (.slice A2 a.curve.length cap2)) 24)
    have J1 := HI.out.ext hx9
    have J2 := HI2.out.ext ((Ext.refl w4).alloc (.cells (a.cells (.slice A2 a.curve.length cap2)) 24))
    generalize hB : w4.heap.size = B2 at *
    generalize w4.alloc (.cells (a.cells (.slice A2 a.curve.length cap2)) 24) = W9 at *
    obtain ⟨q1, q2, c1, c2, c3, c4⟩ := ask_regrown hx9 box1 box2 J1 J2 (right_curve hr)
    have cR := fun d os => Calls.regrown_of (d := d) (os := os) (HR.out _ (hx9.trans (ext_regrown d os)))
    clear hx4 box1 box2 J1 J2 hb12 hb1 hb2 hb3 hb4 HI HI2 HE HD HF HA HR
    refine wp_region_quiet_below (by kernel_rfl) (by kernel_rfl) ?_
    repeat (quiet_step (first | with_reducible exact cR _ _ | with_reducible exact c1 _ _ | with_reducible exact c2 _ _ | with_reducible exact c4 _ _))
    refine wpQuiet_nil ?_
    intro _ hw'
    obtain ⟨⟨dq, osq⟩, rfl⟩ := hw'
    go_wp2
    go_ret
    exact ⟨rfl, hx9.trans (ext_regrown _ _)⟩
end Go.Proofs.YtphnfbjbpbfpkaaDoor
