/- body.ask at its three types: what it hands back, and what the form is behind it. -/
import Derived.Test.YtphnfbjbpbfpkaaDoorBodyB
namespace Go.Proofs.YtphnfbjbpbfpkaaDoor
open Go.RowKit
set_option maxRecDepth 100000

section
variable (w : World) {p mv ma : Nat} {ov : Value} {F : FormS}
def AskOk (w : World) (p mv ma : Nat) (ov : Value) (F : FormS) (Q : Value → World → Prop) (e : Ending) (w' : World) : Prop :=
  ∃ v, e = .returned v ∧ Q v w' ∧ FormAt w' p mv ma ov F ∧ Keeps [p, ma] w w'
theorem AskOk.of {w' : World} {Q : Value → World → Prop} {v : Value} (hq : Q v w') (hf : FormAt w' p mv ma ov F) (hk : Keeps [p, ma] w w') : AskOk w p mv ma ov F Q (.returned v) w' := ⟨v, rfl, hq, hf, hk⟩

/-! ### spigot/body.ask[string] -/
theorem askName_err (h : FormAt w p mv ma ov F) (he : F.e ≠ 0) (t : Int) (fv : Value) : Calls Tryd.prog 46 #[.pointer (some ⟨p, 0, none⟩), .int .i64 t, fv] w fun e w' => e = .returned (.string ⟨#[]⟩) ∧ w = w' := by
  obtain ⟨c0, c1, c2, c3, c4⟩ := h.cell
  have HI := Lib.hid (is_calls w h)
  have k0 : (F.e != 0) = true := by rw [bne_iff_ne]; exact he
  clear he
  go_enter Tryd.func46, Tryd.ntmps46
  go_wp2_with (go_at_call 32; refine (HI.out).mono ?_; rintro e w' ⟨rfl, rfl⟩)
  go_ret
  exact ⟨rfl, rfl⟩

set_option maxHeartbeats 2000000 in
theorem askName_none (h : FormAt w p mv ma ov F) (he : F.e = 0) (t : Int) (ha : assoc F.vals t = none) (fv : Value) : Calls Tryd.prog 46 #[.pointer (some ⟨p, 0, none⟩), .int .i64 t, fv] w fun e w' =>
    e = .returned (.string ⟨#[]⟩) ∧ FormAt w' p mv ma ov (failF F t 110) ∧ Keeps [p, ma] w w' := by
  obtain ⟨c0, c1, c2, c3, c4⟩ := h.cell
  have HI := Lib.hid (is_calls w h)
  have k0 : (F.e != 0) = false := by rw [he]; rfl
  obtain ⟨w1, hu, hm1, hk1, hs1⟩ := update_run (P := Tryd.prog) key_int Tryd.underlying66 Tryd.underlying3 h.asked t true
  have h1 := h.marked w hm1 hk1
  obtain ⟨d0, d1, d2, d3, d4⟩ := h1.cell
  have HH := Lib.hid (has_calls w1 h1 t)
  simp only [ha, Option.isSome_none] at HH
  have hK1 : Keeps [p, ma] w w1 := hk1.mono (by simp)
  have z3 := frozen_of (i := 3) h1.blk
  have z4 := frozen_of (i := 4) h1.blk
  have HP := Lib.hid h1
  clear ha he hm1 hk1 hs1 h1
  go_enter Tryd.func46, Tryd.ntmps46
  go_wp2_with (first
    | (go_at_call 32; refine (HI.out).mono ?_; rintro e w' ⟨rfl, rfl⟩)
    | (go_at_call 31; refine (HH.out).mono ?_; rintro e w' ⟨rfl, rfl⟩))
  go_ret
  exact ⟨rfl, HP.out.failed w1 t 110, (hK1.setCell (.inl (by simp)) _).setCell (.inl (by simp)) _⟩

set_option maxHeartbeats 2000000 in
theorem askName_bad (h : FormAt w p mv ma ov F) (he : F.e = 0) (t : Int) (s : ByteArray) (ha : assoc F.vals t = some s)  (E : Int) (hE : E ≠ 0)
    (hT : ∀ W, Keeps [ma] w W → Calls Tryd.prog 47 #[.string s] W fun e w' => ∃ v, e = .returned (.tuple #[v, .int .i64 E]) ∧ Ext W w') :
    Calls Tryd.prog 46 #[.pointer (some ⟨p, 0, none⟩), .int .i64 t, .func (.func 47) #[] #[]] w fun e w' =>
    e = .returned (.string ⟨#[]⟩) ∧ FormAt w' p mv ma ov (failF F t E) ∧ Keeps [p, ma] w w' := by
  obtain ⟨c0, c1, c2, c3, c4⟩ := h.cell
  have HI := Lib.hid (is_calls w h)
  have k0 : (F.e != 0) = false := by rw [he]; rfl
  have k1 : (E == 0) = false := beq_eq_false_iff_ne.mpr hE
  obtain ⟨w1, hu, hm1, hk1, hs1⟩ := update_run (P := Tryd.prog) key_int Tryd.underlying66 Tryd.underlying3 h.asked t true
  have h1 := h.marked w hm1 hk1
  obtain ⟨d0, d1, d2, d3, d4⟩ := h1.cell
  have hl := lookup_run (P := Tryd.prog) key_int Tryd.underlying65 Tryd.underlying3 Tryd.zeroValue9 h1.vals t false
  have HH := Lib.hid (has_calls w1 h1 t)
  simp only [ha, Option.map_some, Option.getD_some, Option.isSome_some] at hl HH
  have hK1 : Keeps [p, ma] w w1 := hk1.mono (by simp)
  have HT := Lib.hid (hT w1 hk1)
  have HP := Lib.hid h1
  clear ha he hm1 hk1 hs1 h1 hT hE
  go_enter Tryd.func46, Tryd.ntmps46
  go_wp2_with (first
    | (go_at_call 32; refine (HI.out).mono ?_; rintro e w' ⟨rfl, rfl⟩)
    | (go_at_call 31; refine (HH.out).mono ?_; rintro e w' ⟨rfl, rfl⟩)
    | (go_at_call 47; refine (HT.out).mono ?_; rintro e w2 ⟨v, rfl, hb2⟩; have h2 := HP.out.ext hb2; obtain ⟨e0, e1, e2, e3, e4⟩ := h2.cell; have z3 := frozen_of (i := 3) h2.blk; have z4 := frozen_of (i := 4) h2.blk; clear d0 d1 d2 d3 d4; have HP2 := Lib.hid h2; clear h2))
  go_ret
  exact ⟨rfl, HP2.out.failed w2 t E, ((hK1.trans (Keeps.of_ext hb2 _)).setCell (.inl (by simp)) _).setCell (.inl (by simp)) _⟩

set_option maxHeartbeats 2000000 in
theorem askName_ok (h : FormAt w p mv ma ov F) (he : F.e = 0) (t : Int) (s : ByteArray) (ha : assoc F.vals t = some s)  (Q : Value → World → Prop)
    (hT : ∀ W, Keeps [ma] w W → Calls Tryd.prog 47 #[.string s] W fun e w' => ∃ v, e = .returned (.tuple #[v, .int .i64 0]) ∧ Q v w' ∧ Ext W w') :
    Calls Tryd.prog 46 #[.pointer (some ⟨p, 0, none⟩), .int .i64 t, .func (.func 47) #[] #[]] w (AskOk w p mv ma ov (markF F t) Q) := by
  obtain ⟨c0, c1, c2, c3, c4⟩ := h.cell
  have HI := Lib.hid (is_calls w h)
  have k0 : (F.e != 0) = false := by rw [he]; rfl
  obtain ⟨w1, hu, hm1, hk1, hs1⟩ := update_run (P := Tryd.prog) key_int Tryd.underlying66 Tryd.underlying3 h.asked t true
  have h1 := h.marked w hm1 hk1
  obtain ⟨d0, d1, d2, d3, d4⟩ := h1.cell
  have hl := lookup_run (P := Tryd.prog) key_int Tryd.underlying65 Tryd.underlying3 Tryd.zeroValue9 h1.vals t false
  have HH := Lib.hid (has_calls w1 h1 t)
  simp only [ha, Option.map_some, Option.getD_some, Option.isSome_some] at hl HH
  have hK1 : Keeps [p, ma] w w1 := hk1.mono (by simp)
  have HT := Lib.hid (hT w1 hk1)
  have HP := Lib.hid h1
  clear ha he hm1 hk1 hs1 h1 hT
  go_enter Tryd.func46, Tryd.ntmps46
  go_wp2_with (first
    | (go_at_call 32; refine (HI.out).mono ?_; rintro e w' ⟨rfl, rfl⟩)
    | (go_at_call 31; refine (HH.out).mono ?_; rintro e w' ⟨rfl, rfl⟩)
    | (go_at_call 47; refine (HT.out).mono ?_; rintro e w2 ⟨v, rfl, hq, hb2⟩; have HQ := Lib.hid hq; clear hq))
  go_ret
  exact AskOk.of w HQ.out (HP.out.ext hb2) (hK1.trans (Keeps.of_ext hb2 _))

/-! ### spigot/body.ask[int] -/
theorem askInt_err (h : FormAt w p mv ma ov F) (he : F.e ≠ 0) (t : Int) (fv : Value) : Calls Tryd.prog 48 #[.pointer (some ⟨p, 0, none⟩), .int .i64 t, fv] w fun e w' => e = .returned (.int .i64 0) ∧ w = w' := by
  obtain ⟨c0, c1, c2, c3, c4⟩ := h.cell
  have HI := Lib.hid (is_calls w h)
  have k0 : (F.e != 0) = true := by rw [bne_iff_ne]; exact he
  clear he
  go_enter Tryd.func48, Tryd.ntmps48
  go_wp2_with (go_at_call 32; refine (HI.out).mono ?_; rintro e w' ⟨rfl, rfl⟩)
  go_ret
  exact ⟨rfl, rfl⟩

set_option maxHeartbeats 2000000 in
theorem askInt_none (h : FormAt w p mv ma ov F) (he : F.e = 0) (t : Int) (ha : assoc F.vals t = none) (fv : Value) : Calls Tryd.prog 48 #[.pointer (some ⟨p, 0, none⟩), .int .i64 t, fv] w fun e w' =>
    e = .returned (.int .i64 0) ∧ FormAt w' p mv ma ov (failF F t 110) ∧ Keeps [p, ma] w w' := by
  obtain ⟨c0, c1, c2, c3, c4⟩ := h.cell
  have HI := Lib.hid (is_calls w h)
  have k0 : (F.e != 0) = false := by rw [he]; rfl
  obtain ⟨w1, hu, hm1, hk1, hs1⟩ := update_run (P := Tryd.prog) key_int Tryd.underlying66 Tryd.underlying3 h.asked t true
  have h1 := h.marked w hm1 hk1
  obtain ⟨d0, d1, d2, d3, d4⟩ := h1.cell
  have HH := Lib.hid (has_calls w1 h1 t)
  simp only [ha, Option.isSome_none] at HH
  have hK1 : Keeps [p, ma] w w1 := hk1.mono (by simp)
  have z3 := frozen_of (i := 3) h1.blk
  have z4 := frozen_of (i := 4) h1.blk
  have HP := Lib.hid h1
  clear ha he hm1 hk1 hs1 h1
  go_enter Tryd.func48, Tryd.ntmps48
  go_wp2_with (first
    | (go_at_call 32; refine (HI.out).mono ?_; rintro e w' ⟨rfl, rfl⟩)
    | (go_at_call 31; refine (HH.out).mono ?_; rintro e w' ⟨rfl, rfl⟩))
  go_ret
  exact ⟨rfl, HP.out.failed w1 t 110, (hK1.setCell (.inl (by simp)) _).setCell (.inl (by simp)) _⟩

set_option maxHeartbeats 2000000 in
theorem askInt_bad (h : FormAt w p mv ma ov F) (he : F.e = 0) (t : Int) (s : ByteArray) (ha : assoc F.vals t = some s) (bl bh : Nat) (E : Int) (hE : E ≠ 0)
    (hT : ∀ W, Keeps [ma] w W → Calls Tryd.prog 49 #[.string s, .pointer (some ⟨bl, 0, none⟩), .pointer (some ⟨bh, 0, none⟩)] W fun e w' => ∃ v, e = .returned (.tuple #[v, .int .i64 E]) ∧ Ext W w') :
    Calls Tryd.prog 48 #[.pointer (some ⟨p, 0, none⟩), .int .i64 t, .func (.func 49) #[] #[.pointer (some ⟨bl, 0, none⟩), .pointer (some ⟨bh, 0, none⟩)]] w fun e w' =>
    e = .returned (.int .i64 0) ∧ FormAt w' p mv ma ov (failF F t E) ∧ Keeps [p, ma] w w' := by
  obtain ⟨c0, c1, c2, c3, c4⟩ := h.cell
  have HI := Lib.hid (is_calls w h)
  have k0 : (F.e != 0) = false := by rw [he]; rfl
  have k1 : (E == 0) = false := beq_eq_false_iff_ne.mpr hE
  obtain ⟨w1, hu, hm1, hk1, hs1⟩ := update_run (P := Tryd.prog) key_int Tryd.underlying66 Tryd.underlying3 h.asked t true
  have h1 := h.marked w hm1 hk1
  obtain ⟨d0, d1, d2, d3, d4⟩ := h1.cell
  have hl := lookup_run (P := Tryd.prog) key_int Tryd.underlying65 Tryd.underlying3 Tryd.zeroValue9 h1.vals t false
  have HH := Lib.hid (has_calls w1 h1 t)
  simp only [ha, Option.map_some, Option.getD_some, Option.isSome_some] at hl HH
  have hK1 : Keeps [p, ma] w w1 := hk1.mono (by simp)
  have HT := Lib.hid (hT w1 hk1)
  have HP := Lib.hid h1
  clear ha he hm1 hk1 hs1 h1 hT hE
  go_enter Tryd.func48, Tryd.ntmps48
  go_wp2_with (first
    | (go_at_call 32; refine (HI.out).mono ?_; rintro e w' ⟨rfl, rfl⟩)
    | (go_at_call 31; refine (HH.out).mono ?_; rintro e w' ⟨rfl, rfl⟩)
    | (go_at_call 49; refine (HT.out).mono ?_; rintro e w2 ⟨v, rfl, hb2⟩; have h2 := HP.out.ext hb2; obtain ⟨e0, e1, e2, e3, e4⟩ := h2.cell; have z3 := frozen_of (i := 3) h2.blk; have z4 := frozen_of (i := 4) h2.blk; clear d0 d1 d2 d3 d4; have HP2 := Lib.hid h2; clear h2))
  go_ret
  exact ⟨rfl, HP2.out.failed w2 t E, ((hK1.trans (Keeps.of_ext hb2 _)).setCell (.inl (by simp)) _).setCell (.inl (by simp)) _⟩

set_option maxHeartbeats 2000000 in
theorem askInt_ok (h : FormAt w p mv ma ov F) (he : F.e = 0) (t : Int) (s : ByteArray) (ha : assoc F.vals t = some s) (bl bh : Nat) (Q : Value → World → Prop)
    (hT : ∀ W, Keeps [ma] w W → Calls Tryd.prog 49 #[.string s, .pointer (some ⟨bl, 0, none⟩), .pointer (some ⟨bh, 0, none⟩)] W fun e w' => ∃ v, e = .returned (.tuple #[v, .int .i64 0]) ∧ Q v w' ∧ Ext W w') :
    Calls Tryd.prog 48 #[.pointer (some ⟨p, 0, none⟩), .int .i64 t, .func (.func 49) #[] #[.pointer (some ⟨bl, 0, none⟩), .pointer (some ⟨bh, 0, none⟩)]] w (AskOk w p mv ma ov (markF F t) Q) := by
  obtain ⟨c0, c1, c2, c3, c4⟩ := h.cell
  have HI := Lib.hid (is_calls w h)
  have k0 : (F.e != 0) = false := by rw [he]; rfl
  obtain ⟨w1, hu, hm1, hk1, hs1⟩ := update_run (P := Tryd.prog) key_int Tryd.underlying66 Tryd.underlying3 h.asked t true
  have h1 := h.marked w hm1 hk1
  obtain ⟨d0, d1, d2, d3, d4⟩ := h1.cell
  have hl := lookup_run (P := Tryd.prog) key_int Tryd.underlying65 Tryd.underlying3 Tryd.zeroValue9 h1.vals t false
  have HH := Lib.hid (has_calls w1 h1 t)
  simp only [ha, Option.map_some, Option.getD_some, Option.isSome_some] at hl HH
  have hK1 : Keeps [p, ma] w w1 := hk1.mono (by simp)
  have HT := Lib.hid (hT w1 hk1)
  have HP := Lib.hid h1
  clear ha he hm1 hk1 hs1 h1 hT
  go_enter Tryd.func48, Tryd.ntmps48
  go_wp2_with (first
    | (go_at_call 32; refine (HI.out).mono ?_; rintro e w' ⟨rfl, rfl⟩)
    | (go_at_call 31; refine (HH.out).mono ?_; rintro e w' ⟨rfl, rfl⟩)
    | (go_at_call 49; refine (HT.out).mono ?_; rintro e w2 ⟨v, rfl, hq, hb2⟩; have HQ := Lib.hid hq; clear hq))
  go_ret
  exact AskOk.of w HQ.out (HP.out.ext hb2) (hK1.trans (Keeps.of_ext hb2 _))

/-! ### spigot/body.ask[[]int] -/
theorem askInts_err (h : FormAt w p mv ma ov F) (he : F.e ≠ 0) (t : Int) (fv : Value) : Calls Tryd.prog 51 #[.pointer (some ⟨p, 0, none⟩), .int .i64 t, fv] w fun e w' => e = .returned (.slice none 0 0) ∧ w = w' := by
  obtain ⟨c0, c1, c2, c3, c4⟩ := h.cell
  have HI := Lib.hid (is_calls w h)
  have k0 : (F.e != 0) = true := by rw [bne_iff_ne]; exact he
  clear he
  go_enter Tryd.func51, Tryd.ntmps51
  go_wp2_with (go_at_call 32; refine (HI.out).mono ?_; rintro e w' ⟨rfl, rfl⟩)
  go_ret
  exact ⟨rfl, rfl⟩

set_option maxHeartbeats 2000000 in
theorem askInts_none (h : FormAt w p mv ma ov F) (he : F.e = 0) (t : Int) (ha : assoc F.vals t = none) (fv : Value) : Calls Tryd.prog 51 #[.pointer (some ⟨p, 0, none⟩), .int .i64 t, fv] w fun e w' =>
    e = .returned (.slice none 0 0) ∧ FormAt w' p mv ma ov (failF F t 110) ∧ Keeps [p, ma] w w' := by
  obtain ⟨c0, c1, c2, c3, c4⟩ := h.cell
  have HI := Lib.hid (is_calls w h)
  have k0 : (F.e != 0) = false := by rw [he]; rfl
  obtain ⟨w1, hu, hm1, hk1, hs1⟩ := update_run (P := Tryd.prog) key_int Tryd.underlying66 Tryd.underlying3 h.asked t true
  have h1 := h.marked w hm1 hk1
  obtain ⟨d0, d1, d2, d3, d4⟩ := h1.cell
  have HH := Lib.hid (has_calls w1 h1 t)
  simp only [ha, Option.isSome_none] at HH
  have hK1 : Keeps [p, ma] w w1 := hk1.mono (by simp)
  have z3 := frozen_of (i := 3) h1.blk
  have z4 := frozen_of (i := 4) h1.blk
  have HP := Lib.hid h1
  clear ha he hm1 hk1 hs1 h1
  go_enter Tryd.func51, Tryd.ntmps51
  go_wp2_with (first
    | (go_at_call 32; refine (HI.out).mono ?_; rintro e w' ⟨rfl, rfl⟩)
    | (go_at_call 31; refine (HH.out).mono ?_; rintro e w' ⟨rfl, rfl⟩))
  go_ret
  exact ⟨rfl, HP.out.failed w1 t 110, (hK1.setCell (.inl (by simp)) _).setCell (.inl (by simp)) _⟩

set_option maxHeartbeats 2000000 in
theorem askInts_bad (h : FormAt w p mv ma ov F) (he : F.e = 0) (t : Int) (s : ByteArray) (ha : assoc F.vals t = some s) (bm bl bh : Nat) (E : Int) (hE : E ≠ 0)
    (hT : ∀ W, Keeps [ma] w W → Calls Tryd.prog 52 #[.string s, .pointer (some ⟨bm, 0, none⟩), .pointer (some ⟨bl, 0, none⟩), .pointer (some ⟨bh, 0, none⟩)] W fun e w' => ∃ v, e = .returned (.tuple #[v, .int .i64 E]) ∧ Ext W w') :
    Calls Tryd.prog 51 #[.pointer (some ⟨p, 0, none⟩), .int .i64 t, .func (.func 52) #[] #[.pointer (some ⟨bm, 0, none⟩), .pointer (some ⟨bl, 0, none⟩), .pointer (some ⟨bh, 0, none⟩)]] w fun e w' =>
    e = .returned (.slice none 0 0) ∧ FormAt w' p mv ma ov (failF F t E) ∧ Keeps [p, ma] w w' := by
  obtain ⟨c0, c1, c2, c3, c4⟩ := h.cell
  have HI := Lib.hid (is_calls w h)
  have k0 : (F.e != 0) = false := by rw [he]; rfl
  have k1 : (E == 0) = false := beq_eq_false_iff_ne.mpr hE
  obtain ⟨w1, hu, hm1, hk1, hs1⟩ := update_run (P := Tryd.prog) key_int Tryd.underlying66 Tryd.underlying3 h.asked t true
  have h1 := h.marked w hm1 hk1
  obtain ⟨d0, d1, d2, d3, d4⟩ := h1.cell
  have hl := lookup_run (P := Tryd.prog) key_int Tryd.underlying65 Tryd.underlying3 Tryd.zeroValue9 h1.vals t false
  have HH := Lib.hid (has_calls w1 h1 t)
  simp only [ha, Option.map_some, Option.getD_some, Option.isSome_some] at hl HH
  have hK1 : Keeps [p, ma] w w1 := hk1.mono (by simp)
  have HT := Lib.hid (hT w1 hk1)
  have HP := Lib.hid h1
  clear ha he hm1 hk1 hs1 h1 hT hE
  go_enter Tryd.func51, Tryd.ntmps51
  go_wp2_with (first
    | (go_at_call 32; refine (HI.out).mono ?_; rintro e w' ⟨rfl, rfl⟩)
    | (go_at_call 31; refine (HH.out).mono ?_; rintro e w' ⟨rfl, rfl⟩)
    | (go_at_call 52; refine (HT.out).mono ?_; rintro e w2 ⟨v, rfl, hb2⟩; have h2 := HP.out.ext hb2; obtain ⟨e0, e1, e2, e3, e4⟩ := h2.cell; have z3 := frozen_of (i := 3) h2.blk; have z4 := frozen_of (i := 4) h2.blk; clear d0 d1 d2 d3 d4; have HP2 := Lib.hid h2; clear h2))
  go_ret
  exact ⟨rfl, HP2.out.failed w2 t E, ((hK1.trans (Keeps.of_ext hb2 _)).setCell (.inl (by simp)) _).setCell (.inl (by simp)) _⟩

set_option maxHeartbeats 2000000 in
theorem askInts_ok (h : FormAt w p mv ma ov F) (he : F.e = 0) (t : Int) (s : ByteArray) (ha : assoc F.vals t = some s) (bm bl bh : Nat) (Q : Value → World → Prop)
    (hT : ∀ W, Keeps [ma] w W → Calls Tryd.prog 52 #[.string s, .pointer (some ⟨bm, 0, none⟩), .pointer (some ⟨bl, 0, none⟩), .pointer (some ⟨bh, 0, none⟩)] W fun e w' => ∃ v, e = .returned (.tuple #[v, .int .i64 0]) ∧ Q v w' ∧ Ext W w') :
    Calls Tryd.prog 51 #[.pointer (some ⟨p, 0, none⟩), .int .i64 t, .func (.func 52) #[] #[.pointer (some ⟨bm, 0, none⟩), .pointer (some ⟨bl, 0, none⟩), .pointer (some ⟨bh, 0, none⟩)]] w (AskOk w p mv ma ov (markF F t) Q) := by
  obtain ⟨c0, c1, c2, c3, c4⟩ := h.cell
  have HI := Lib.hid (is_calls w h)
  have k0 : (F.e != 0) = false := by rw [he]; rfl
  obtain ⟨w1, hu, hm1, hk1, hs1⟩ := update_run (P := Tryd.prog) key_int Tryd.underlying66 Tryd.underlying3 h.asked t true
  have h1 := h.marked w hm1 hk1
  obtain ⟨d0, d1, d2, d3, d4⟩ := h1.cell
  have hl := lookup_run (P := Tryd.prog) key_int Tryd.underlying65 Tryd.underlying3 Tryd.zeroValue9 h1.vals t false
  have HH := Lib.hid (has_calls w1 h1 t)
  simp only [ha, Option.map_some, Option.getD_some, Option.isSome_some] at hl HH
  have hK1 : Keeps [p, ma] w w1 := hk1.mono (by simp)
  have HT := Lib.hid (hT w1 hk1)
  have HP := Lib.hid h1
  clear ha he hm1 hk1 hs1 h1 hT
  go_enter Tryd.func51, Tryd.ntmps51
  go_wp2_with (first
    | (go_at_call 32; refine (HI.out).mono ?_; rintro e w' ⟨rfl, rfl⟩)
    | (go_at_call 31; refine (HH.out).mono ?_; rintro e w' ⟨rfl, rfl⟩)
    | (go_at_call 52; refine (HT.out).mono ?_; rintro e w2 ⟨v, rfl, hq, hb2⟩; have HQ := Lib.hid hq; clear hq))
  go_ret
  exact AskOk.of w HQ.out (HP.out.ext hb2) (hK1.trans (Keeps.of_ext hb2 _))
end
end Go.Proofs.YtphnfbjbpbfpkaaDoor
