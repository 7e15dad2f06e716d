/- The form's methods Kind and Done, and Read, which makes it. -/
import Derived.Test.YtphnfbjbpbfpkaaDoorBodyD
namespace Go.Proofs.YtphnfbjbpbfpkaaDoor
open Go.RowKit
set_option maxRecDepth 100000

def kindF (F : FormS) : FormS := if F.e = 0 then markF F 35 else F
def doneL (asked : List (Int × Bool)) : List Int → Int × Int
  | [] => (0, 0)
  | t :: r => if (assoc asked t).getD false then doneL asked r else (t, 113)
def doneR (F : FormS) : Int × Int := if F.e = 0 then doneL F.asked F.order else (F.tag, F.e)
theorem getD_bool (o : Option Bool) : (o.map Value.bool).getD (.bool false) = .bool (o.getD false) := by cases o <;> rfl
theorem getD_str (o : Option ByteArray) : (o.map Value.string).getD (.string ⟨#[]⟩) = .string (o.getD ⟨#[]⟩) := by cases o <;> rfl

section
variable (w : World) {p mv ma : Nat} {ov : Value} {F : FormS}
theorem kind_calls (h : FormAt w p mv ma ov F) : Calls Tryd.prog 15 #[.pointer (some ⟨p, 0, none⟩)] w fun e w' =>
    e = .returned (.string ((assoc F.vals 35).getD ⟨#[]⟩)) ∧ FormAt w' p mv ma ov (kindF F) ∧ Keeps [p, ma] w w' := by
  obtain ⟨c0, c1, c2, c3, c4⟩ := h.cell
  have HI := Lib.hid (is_calls w h)
  by_cases he : F.e = 0
  · have k0 : (F.e == 0) = true := by rw [he]; rfl
    rw [show kindF F = markF F 35 by simp [kindF, he]]
    obtain ⟨w1, hu, hm1, hk1, hs1⟩ := update_run (P := Tryd.prog) key_int Tryd.underlying66 Tryd.underlying3 h.asked 35 true
    have h1 := h.marked w hm1 hk1
    obtain ⟨d0, d1, d2, d3, d4⟩ := h1.cell
    have hl := lookup_run (P := Tryd.prog) key_int Tryd.underlying65 Tryd.underlying3 Tryd.zeroValue9 h1.vals 35 false
    rw [getD_str] at hl
    have hK1 : Keeps [p, ma] w w1 := hk1.mono (by simp)
    have HP := Lib.hid h1
    clear he hm1 hk1 hs1 h1
    go_enter Tryd.func15, Tryd.ntmps15
    go_wp2_with (go_at_call 32; refine (HI.out).mono ?_; rintro e w' ⟨rfl, rfl⟩)
    go_ret
    exact ⟨rfl, HP.out, hK1⟩
  · have k0 : (F.e == 0) = false := beq_eq_false_iff_ne.mpr he
    rw [show kindF F = F by simp [kindF, he]]
    have hl := lookup_run (P := Tryd.prog) key_int Tryd.underlying65 Tryd.underlying3 Tryd.zeroValue9 h.vals 35 false
    rw [getD_str] at hl
    clear he
    go_enter Tryd.func15, Tryd.ntmps15
    go_wp2_with (go_at_call 32; refine (HI.out).mono ?_; rintro e w' ⟨rfl, rfl⟩)
    go_ret
    exact ⟨rfl, h, Keeps.refl _ _⟩

theorem doneL_all {asked : List (Int × Bool)} : ∀ (l : List Int) (k : Nat), (∀ j, j < k → (assoc asked (l.getD j 0)).getD false = true) → k ≤ l.length → doneL asked l = doneL asked (l.drop k)
  | l, 0, _, _ => rfl
  | [], k + 1, _, h => by simp at h
  | t :: r, k + 1, h, hk => by
    have h0 := h 0 (by omega)
    simp only [List.getD_cons_zero] at h0
    rw [doneL, if_pos h0, List.drop_succ_cons]
    exact doneL_all r k (fun j hj => by have := h (j + 1) (by omega); simpa using this) (by simpa using hk)
theorem drop_getD {l : List Int} {k : Nat} (hk : k < l.length) : l.drop k = l.getD k 0 :: l.drop (k + 1) := by
  rw [List.drop_eq_getElem_cons hk]
  simp [List.getD_eq_getElem?_getD, List.getElem?_eq_getElem hk]

set_option maxHeartbeats 1000000 in
theorem done_calls (h : FormAt w p mv ma ov F) (hlen : F.order.length ≤ 64) : Calls Tryd.prog 18 #[.pointer (some ⟨p, 0, none⟩)] w fun e w' =>
    e = .returned (.tuple #[.int .i64 (doneR F).1, .int .i64 (doneR F).2]) ∧ Ext w w' := by
  obtain ⟨c0, c1, c2, c3, c4⟩ := h.cell
  have HI := Lib.hid (is_calls w h)
  by_cases he : F.e = 0
  · have k0 : (F.e != 0) = false := by rw [he]; rfl
    rw [show doneR F = doneL F.asked F.order by simp [doneR, he]]
    have hl := fun t => lookup_run (P := Tryd.prog) key_int Tryd.underlying66 Tryd.underlying3 Tryd.zeroValue4 h.asked t false
    simp only [getD_bool] at hl
    have hI : Ints w ov F.order := SlAt.of_own h.ord
    obtain ⟨A, cap, hv, _⟩ := SlAt.form hI
    subst hv
    clear he
    go_enter Tryd.func18, Tryd.ntmps18
    go_wp2_with (go_at_call 32; refine (HI.out).mono ?_; rintro e w' ⟨rfl, rfl⟩)
    go_loop [29] (fun i => ∃ k : Nat, k ≤ F.order.length ∧ i = .int .i64 k ∧ Hid (doneL F.asked F.order = doneL F.asked (F.order.drop k))) (fun i => F.order.length - (intOf i).toNat)
    case atStart => exact ⟨0, by omega, rfl, Lib.hid rfl⟩
    case round =>
      obtain ⟨k, hk, rfl, hall⟩ := hrel
      by_cases hlt : k < F.order.length
      · obtain ⟨b, off, c', hA, hb, hcell⟩ := hI.at_ hlt
        obtain ⟨rfl, rfl⟩ : A = some ⟨b, off, none⟩ ∧ cap = c' := by injection hA with h1 _ h2; exact ⟨h1, h2⟩
        clear hA
        rw [drop_getD hlt] at hall
        generalize F.order.getD k 0 = x at *
        have hlx := hl x
        clear hl
        cases ha : (assoc F.asked x).getD false
        · rw [ha] at hlx
          have H := Lib.hid (show doneL F.asked F.order = (x, 113) by rw [hall.out, doneL, if_neg (by rw [ha]; decide)])
          clear ha
          go_wp2
          go_ret2
          exact ⟨by rw [H.out]; rfl, Ext.refl _⟩
        · rw [ha] at hlx
          have H := Lib.hid (show doneL F.asked F.order = doneL F.asked (F.order.drop (k + 1)) by rw [hall.out, doneL, if_pos ha])
          clear ha
          go_wp2
          go_round
          case rel => exact ⟨k + 1, by omega, by go_num, H⟩
          case measure => simp [intOf]; omega
      · have hkk : k = F.order.length := by omega
        subst hkk
        have H := Lib.hid (show doneL F.asked F.order = (0, 0) by rw [hall.out, List.drop_length]; rfl)
        clear hl
        go_wp2
        go_ret2
        exact ⟨by rw [H.out]; rfl, Ext.refl _⟩
  · have k0 : (F.e != 0) = true := by rw [bne_iff_ne]; exact he
    rw [show doneR F = (F.tag, F.e) by simp [doneR, he]]
    clear he
    go_enter Tryd.func18, Tryd.ntmps18
    go_wp2_with (go_at_call 32; refine (HI.out).mono ?_; rintro e w' ⟨rfl, rfl⟩)
    go_quiet (fail)
    go_wp2
    go_ret2
    exact ⟨rfl, (Ext.refl _).drewN _⟩
end
end Go.Proofs.YtphnfbjbpbfpkaaDoor
