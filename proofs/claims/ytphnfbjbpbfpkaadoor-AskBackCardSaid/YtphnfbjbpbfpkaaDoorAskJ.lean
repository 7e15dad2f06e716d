/- The law AskSound. -/
import Derived.Test.YtphnfbjbpbfpkaaDoorAskI
namespace Go.Proofs.YtphnfbjbpbfpkaaDoor
open Go.RowKit
set_option maxRecDepth 100000
attribute [local irreducible] Utf8.encode

theorem dec_zero (w : World) (s : ByteArray) (hs : s.size ≤ 4000000000) (hg : Glob w) {t e : Int} (h : (decR s).e ≠ 0) (ht : (decR s).tag = t) (he : (decR s).e = e) : Calls Tryd.prog 8 #[.string s] w fun x w' => ∃ A c, x = .returned (.tuple #[.agg (zeroCells 0 (.slice A 0 c)), .int .i64 t, .int .i64 e]) ∧ Ints w' (.slice A 0 c) [] ∧ Ext w w' := by
  refine (decode_calls w s hs hg).mono (fun x w' ⟨c, h1, h2, h3⟩ => ?_)
  rw [dec_bad h] at h1 h2
  obtain ⟨A, cap, rfl, _⟩ := SlAt.form h2
  exact ⟨A, cap, by rw [h1, ht, he]; rfl, h2, h3⟩

set_option maxHeartbeats 8000000 in
theorem sound_calls (w : World) (s : ByteArray) (hg : Glob w) : Calls Tryd.prog 4 #[.string s] w fun e w' => e = .returned (.bool true) ∧ Ext w w' := by
  have HA := Lib.hid (fun (W : World) (hW : Ext w W) => awake_calls W (hg.ext hW))
  by_cases hbig : 5000 < s.size
  · have hb : (5000 : Int) < (s.size : Int) := by omega
    clear hbig hg
    go_enter Tryd.func4, Tryd.ntmps4
    go_wp2_with (go_at_call 5; refine (HA.out _ (Ext.refl w)).mono ?_; rintro e w1 ⟨rfl, hb1⟩)
    go_ret
    exact ⟨rfl, hb1⟩
  have hb : ¬ (5000 : Int) < (s.size : Int) := by omega
  by_cases he : (decR s).e = 0
  · have hr := dec_ok he
    have htag : (decR s) = ⟨(decR s).ask, (decR s).tag, 0⟩ := by rw [← he]
    have HD0 := Lib.hid (fun (W : World) (hW : Ext w W) => (show Calls Tryd.prog 8 #[.string s] W (DecPost W ⟨(decR s).ask, (decR s).tag, 0⟩) by rw [← htag]; exact decode_calls W s (by omega) (hg.ext hW)))
    generalize (decR s).ask = a at *
    generalize (decR s).tag = tg at *
    have HE := Lib.hid (fun (W : World) c (hW : Ext w W) (hc : Ints W c a.curve) => encode_right hr hc (hg.ext hW))
    have HD := Lib.hid (fun (W : World) (hW : Ext w W) => decode_right hr (hg.ext hW))
    have HR := Lib.hid (fun (W : World) c (hc : Ints W c a.curve) => right_calls W a c hc)
    rw [hr] at HR
    have hl := right_curve hr
    clear hg hbig he htag hr
    go_enter Tryd.func4, Tryd.ntmps4
    go_upto_region 14 with (first
      | (go_at_call 5; refine (HA.out _ (Ext.refl w)).mono ?_; rintro e w1 ⟨rfl, hb1⟩)
      | (go_at_call 8; first
        | (refine (HD.out _ (hx2.trans (hb3.trans hb4))).mono ?_; rintro e w5 ⟨c2, rfl, hc2, hb5⟩; go_must (obtain ⟨A2, cap2, rfl, _⟩ := SlAt.form hc2; have HI2 := Lib.hid hc2; clear hc2))
        | (refine (HD0.out _ hb1).mono ?_; go_must (rintro e w2 ⟨c1, rfl, hc1, hb2⟩); go_must (obtain ⟨A, cap, rfl, _⟩ := SlAt.form hc1; have hx2 := (hb1.trans hb2).alloc (.cells (a.cells (.slice A a.curve.length cap)) 24); have HI := Lib.hid (hc1.ext ((Ext.refl w2).alloc (.cells (a.cells (.slice A a.curve.length cap)) 24))); have hbox := heap_alloc_at w2 (.cells (a.cells (.slice A a.curve.length cap)) 24); clear hc1; have HB := Lib.hid hbox; clear hbox)))
      | (go_at_call 9; refine (HR.out _ _ HI.out).mono ?_; rintro e w3 ⟨rfl, hb3⟩; obtain ⟨hcc, hff⟩ := hb3.cells)
      | (go_at_call 7; refine (HE.out _ _ (hx2.trans hb3) (HI.out.ext hb3)).mono ?_; rintro e w4 ⟨rfl, hb4⟩; clear hcc hff))
    have hx5 : Ext w w5 := ((hx2.trans hb3).trans hb4).trans hb5
    have hx9 : Ext w (w5.alloc (.cells (a.cells (.slice A2 a.curve.length cap2)) 24)) := hx5.alloc _
    have hx35 := ((hb3.trans hb4).trans hb5).alloc (.cells (a.cells (.slice A2 a.curve.length cap2)) 24)
    have box1 := hx35.heap HB.out
    have box2 := heap_alloc_at w5 (.cells (a.cells (.slice A2 a.curve.length cap2)) 24)
    have J1 := HI.out.ext hx35
    have J2 := HI2.out.ext ((Ext.refl w5).alloc (.cells (a.cells (.slice A2 a.curve.length cap2)) 24))
    generalize hB : w5.heap.size = B2 at *
    generalize w5.alloc (.cells (a.cells (.slice A2 a.curve.length cap2)) 24) = W9 at *
    obtain ⟨q1, q2, c1, c2, c3, c4⟩ := ask_regrown hx9 box1 box2 J1 J2 hl
    clear hx5 hx35 box1 box2 J1 J2 hb1 hb2 hb3 hb4 hb5 HI HI2 HE HD HD0 HA HR HB hx2
    refine wp_region_quiet_below (by kernel_rfl) (by kernel_rfl) ?_
    repeat (quiet_step (first | with_reducible exact c1 _ _ | with_reducible exact c2 _ _ | with_reducible exact c3 _ _))
    refine wpQuiet_nil ?_
    intro _ hw'
    obtain ⟨⟨dq, osq⟩, rfl⟩ := hw'
    go_wp2
    go_ret
    exact ⟨rfl, hx9.trans (ext_regrown _ _)⟩
  · have HD0 := Lib.hid (fun (W : World) (hW : Ext w W) => dec_zero W s (by omega) (hg.ext hW) he rfl rfl)
    have b0 : ((decR s).e != 0) = true := by rw [bne_iff_ne]; exact he
    generalize (decR s).e = ev at *
    generalize (decR s).tag = tg at *
    have HP := Lib.hid (fun (W : World) A c (hc : Ints W (.slice A 0 c) []) => (show Calls Tryd.prog 11 #[.agg (zeroCells 0 (.slice A 0 c))] W fun e w' => e = .returned (.agg (zeroCells 0 (.slice A 0 c))) ∧ Ext W w' from plain_calls W (zeroAsk 0) _ hc))
    have HS := Lib.hid (fun (W : World) A c (hc : Ints W (.slice A 0 c) []) => (show Calls Tryd.prog 10 #[.agg (zeroCells 0 (.slice A 0 c)), .agg (zeroCells 0 (.slice none 0 0))] W fun e w' => e = .returned (.bool true) ∧ Ext W w' from same_calls W (zeroAsk 0) _ _ hc (SlAt.nil W 1) (by simp [zeroAsk])))
    clear hg hbig he
    go_enter Tryd.func4, Tryd.ntmps4
    go_wp2_with (first
      | (go_at_call 5; refine (HA.out _ (Ext.refl w)).mono ?_; rintro e w1 ⟨rfl, hb1⟩)
      | (go_at_call 8; refine (HD0.out _ hb1).mono ?_; rintro e w2 ⟨A, c, rfl, hc, hb2⟩; go_must (have HI := Lib.hid (hc.ext ((Ext.refl w2).alloc (.cells (zeroCells 0 (.slice A 0 c)) 24))); clear hc))
      | (go_at_call 11; refine (HP.out _ _ _ HI.out).mono ?_; rintro e w3 ⟨rfl, hb3⟩)
      | (go_at_call 10; refine (HS.out _ _ _ (HI.out.ext hb3)).mono ?_; rintro e w4 ⟨rfl, hb4⟩))
    go_ret
    exact ⟨rfl, (((hb1.trans hb2).alloc _).trans hb3).trans hb4⟩
end Go.Proofs.YtphnfbjbpbfpkaaDoor
