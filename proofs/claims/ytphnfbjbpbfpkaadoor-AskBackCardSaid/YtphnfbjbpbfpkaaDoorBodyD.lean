/- The form's methods: Name, Int, Ints, Kind, Done. -/
import Derived.Test.YtphnfbjbpbfpkaaDoorBodyC
namespace Go.Proofs.YtphnfbjbpbfpkaaDoor
open Go.RowKit
set_option maxRecDepth 100000

theorem Glob.keeps {w w' : World} {D : List Nat} (h : Glob w) (hk : Keeps D w w') (hD : ∀ d ∈ D, ∀ k n, w.cell? ⟨d, 0, none⟩ ≠ some (.int k n)) : Glob w' := by
  obtain ⟨⟨m, hm⟩, ht⟩ := h
  refine ⟨⟨m, ?_⟩, ?_⟩
  · have hlt : 1 < w.heap.size := block_lt_of_cell hm
    rw [World.cell?_of_block (w := w) (a := ⟨1, 0, none⟩) (hk.block _ hlt (fun hd => hD _ hd _ _ hm))]
    exact hm
  · unfold Lib.TabIs World.var? at ht ⊢
    revert ht
    cases hg : Tryd.prog.globalNamed "internal/strconv.uint64pow10" with
    | none => exact id
    | some g =>
      intro ht
      simp only [Option.bind_some] at ht ⊢
      cases hh : w.heap[g]? with
      | none => rw [hh] at ht; cases ht
      | some o =>
        rw [hh] at ht
        cases o with
        | cells cs t fz =>
          simp only [Option.some.injEq] at ht
          rw [hk.block g (heap_lt hh) (fun hd => hD _ hd .u64 1 (by rw [cell_of hh, ht]; rfl)), hh]
          simp only [Option.some.injEq]
          exact ht
        | _ => cases ht

section
variable (w : World) {p mv ma : Nat} {ov : Value} {F : FormS}
theorem FormAt.glob {w' : World} (h : FormAt w p mv ma ov F) (hg : Glob w) (hk : Keeps [p, ma] w w') : Glob w' := by
  refine hg.keeps hk (fun d hd k n hc => ?_)
  simp only [List.mem_cons, List.not_mem_nil, or_false] at hd
  rcases hd with rfl | rfl
  · rw [h.cell.1] at hc
    obtain ⟨A, c, hv, _⟩ := SlAt.form (SlAt.of_own h.ord)
    rw [hv] at hc
    cases hc
  · obtain ⟨es, c, hm, _⟩ := h.asked
    simp [World.cell?, hm] at hc

def askN (F : FormS) (t : Int) : ByteArray × FormS :=
  if F.e = 0 then match assoc F.vals t with
    | none => (⟨#[]⟩, failF F t 110)
    | some s => if validB s then (s, markF F t) else (⟨#[]⟩, failF F t 43)
  else (⟨#[]⟩, F)
def askI (F : FormS) (t lo hi : Int) : Int × FormS :=
  if F.e = 0 then match assoc F.vals t with
    | none => (0, failF F t 110)
    | some s => if rngE lo hi (numR s) = 0 then (numN (numR s), markF F t) else (0, failF F t (rngE lo hi (numR s)))
  else (0, F)
def askIs (F : FormS) (t most lo hi : Int) : List Int × FormS :=
  if F.e = 0 then match assoc F.vals t with
    | none => ([], failF F t 110)
    | some s => if intsE most lo hi (numsR s) = 0 then ((numsR s).getD [], markF F t) else ([], failF F t (intsE most lo hi (numsR s)))
  else ([], F)

theorem name_calls (h : FormAt w p mv ma ov F) (t : Int) : Calls Tryd.prog 33 #[.pointer (some ⟨p, 0, none⟩), .int .i64 t] w fun e w' =>
    e = .returned (.string (askN F t).1) ∧ FormAt w' p mv ma ov (askN F t).2 ∧ Keeps [p, ma] w w' := by
  by_cases he : F.e = 0
  · cases ha : assoc F.vals t with
    | none =>
      rw [show askN F t = (⟨#[]⟩, failF F t 110) by simp [askN, he, ha]]
      have HC := Lib.hid (askName_none w h he t ha (.func (.func 47) #[] #[]))
      clear he ha
      go_enter Tryd.func33, Tryd.ntmps33
      go_wp2_with (go_at_call 46; refine HC.out.mono ?_; rintro e w' ⟨rfl, h1, h2⟩)
      go_ret
      exact ⟨rfl, h1, h2⟩
    | some s =>
      cases hv : validB s
      · rw [show askN F t = (⟨#[]⟩, failF F t 43) by simp [askN, he, ha, hv]]
        have HC := Lib.hid (askName_bad w h he t s ha 43 (by decide) (fun W _ => (name1_calls W s).mono (fun e w' ⟨h1, h2⟩ => ⟨.string ⟨#[]⟩, by rw [h1, hv]; rfl, h2⟩)))
        clear he ha hv
        go_enter Tryd.func33, Tryd.ntmps33
        go_wp2_with (go_at_call 46; refine HC.out.mono ?_; rintro e w' ⟨rfl, h1, h2⟩)
        go_ret
        exact ⟨rfl, h1, h2⟩
      · rw [show askN F t = (s, markF F t) by simp [askN, he, ha, hv]]
        have HC := Lib.hid (askName_ok w h he t s ha (fun v _ => v = .string s) (fun W _ => (name1_calls W s).mono (fun e w' ⟨h1, h2⟩ => ⟨.string s, by rw [h1, hv]; rfl, rfl, h2⟩)))
        clear he ha hv
        go_enter Tryd.func33, Tryd.ntmps33
        go_wp2_with (go_at_call 46; refine HC.out.mono ?_; rintro e w' ⟨v, rfl, rfl, h1, h2⟩)
        go_ret
        exact ⟨rfl, h1, h2⟩
  · rw [show askN F t = (⟨#[]⟩, F) by simp [askN, he]]
    have HC := Lib.hid (askName_err w h he t (.func (.func 47) #[] #[]))
    clear he
    go_enter Tryd.func33, Tryd.ntmps33
    go_wp2_with (go_at_call 46; refine HC.out.mono ?_; rintro e w' ⟨rfl, rfl⟩)
    go_ret
    exact ⟨rfl, h, Keeps.refl _ _⟩

theorem keeps_cell {w w' : World} {D : List Nat} (hk : Keeps D w w') {b o : Nat} {v : Value} (h : w.cell? ⟨b, o, none⟩ = some v) (hb : b ∉ D) : w'.cell? ⟨b, o, none⟩ = some v :=
  (World.cell?_of_block (w := w) (a := ⟨b, o, none⟩) (hk.block b (block_lt_of_cell h) hb)).trans h

set_option maxHeartbeats 1000000 in
theorem int_calls (t : Int) (h : FormAt w p mv ma ov F) (hs : ∀ s, assoc F.vals t = some s → s.size ≤ 4000000000) (lo hi : Int) : Calls Tryd.prog 34 #[.pointer (some ⟨p, 0, none⟩), .int .i64 t, .int .i64 lo, .int .i64 hi] w fun e w' =>
    e = .returned (.int .i64 (askI F t lo hi).1) ∧ FormAt w' p mv ma ov (askI F t lo hi).2 ∧ Keeps [p, ma] w w' := by
  have hlt := h.asked.lt
  obtain ⟨W0, hW0⟩ : ∃ W0 : World, W0 = (w.alloc (.cells #[.int .i64 lo] 3)).alloc (.cells #[.int .i64 hi] 3) := ⟨_, rfl⟩
  have hx : Ext w W0 := by rw [hW0]; exact ((Ext.refl w).alloc _).alloc _
  have h0 : FormAt W0 p mv ma ov F := h.ext hx
  have cl : W0.cell? ⟨w.heap.size, 0, none⟩ = some (.int .i64 lo) := by
    rw [hW0, cell_of ((heap_alloc_lt _ _ (by rw [size_alloc]; omega)).trans (heap_alloc_at w _))]; rfl
  have ch : W0.cell? ⟨w.heap.size + 1, 0, none⟩ = some (.int .i64 hi) := by
    rw [hW0, cell_of (by have := heap_alloc_at (w.alloc (.cells #[.int .i64 lo] 3)) (.cells #[.int .i64 hi] 3); rwa [size_alloc] at this)]; rfl
  have hk0 : Keeps [p, ma] w W0 := Keeps.of_ext hx _
  have HK := Lib.hid hk0
  clear hk0
  by_cases he : F.e = 0
  · cases ha : assoc F.vals t with
    | none =>
      rw [show askI F t lo hi = (0, failF F t 110) by simp [askI, he, ha]]
      have HC := Lib.hid (askInt_none W0 h0 he t ha (.func (.func 49) #[] #[.pointer (some ⟨w.heap.size, 0, none⟩), .pointer (some ⟨w.heap.size + 1, 0, none⟩)]))
      subst hW0
      clear he ha hs cl ch h0 hx
      go_enter Tryd.func34, Tryd.ntmps34
      go_wp2_with (go_at_call 48; refine HC.out.mono ?_; rintro e w' ⟨rfl, h1, h2⟩)
      go_ret
      exact ⟨rfl, h1, HK.out.trans h2⟩
    | some s =>
      have hT : ∀ W, Keeps [ma] W0 W → Calls Tryd.prog 49 #[.string s, .pointer (some ⟨w.heap.size, 0, none⟩), .pointer (some ⟨w.heap.size + 1, 0, none⟩)] W fun e w' =>
          e = .returned (.tuple #[.int .i64 (numN (numR s)), .int .i64 (rngE lo hi (numR s))]) ∧ Ext W w' := fun W hW =>
        int1_calls W s (by have := hs s ha; omega) lo hi _ _ (keeps_cell hW cl (by simp; omega)) (keeps_cell hW ch (by simp; omega))
      by_cases hr : rngE lo hi (numR s) = 0
      · rw [show askI F t lo hi = (numN (numR s), markF F t) by simp [askI, he, ha, hr]]
        have HC := Lib.hid (askInt_ok W0 h0 he t s ha _ _ (fun v _ => v = .int .i64 (numN (numR s))) (fun W hW => (hT W hW).mono (fun e w' ⟨h1, h2⟩ => ⟨.int .i64 (numN (numR s)), by rw [h1, hr], rfl, h2⟩)))
        subst hW0
        clear he ha hs cl ch h0 hx hT hr
        go_enter Tryd.func34, Tryd.ntmps34
        go_wp2_with (go_at_call 48; refine HC.out.mono ?_; rintro e w' ⟨v, rfl, rfl, h1, h2⟩)
        go_ret
        exact ⟨rfl, h1, HK.out.trans h2⟩
      · rw [show askI F t lo hi = (0, failF F t (rngE lo hi (numR s))) by simp [askI, he, ha, hr]]
        have HC := Lib.hid (askInt_bad W0 h0 he t s ha _ _ _ hr (fun W hW => (hT W hW).mono (fun e w' ⟨h1, h2⟩ => ⟨.int .i64 (numN (numR s)), h1, h2⟩)))
        subst hW0
        clear he ha hs cl ch h0 hx hT hr
        go_enter Tryd.func34, Tryd.ntmps34
        go_wp2_with (go_at_call 48; refine HC.out.mono ?_; rintro e w' ⟨rfl, h1, h2⟩)
        go_ret
        exact ⟨rfl, h1, HK.out.trans h2⟩
  · rw [show askI F t lo hi = (0, F) by simp [askI, he]]
    have HC := Lib.hid (askInt_err W0 h0 he t (.func (.func 49) #[] #[.pointer (some ⟨w.heap.size, 0, none⟩), .pointer (some ⟨w.heap.size + 1, 0, none⟩)]))
    have H0 := Lib.hid h0
    subst hW0
    clear he hs cl ch h0 hx
    go_enter Tryd.func34, Tryd.ntmps34
    go_wp2_with (go_at_call 48; refine HC.out.mono ?_; rintro e w' ⟨rfl, rfl⟩)
    go_ret
    exact ⟨rfl, H0.out, HK.out⟩
def IntsPost (w : World) (p mv ma : Nat) (ov : Value) (r : List Int × FormS) (e : Ending) (w' : World) : Prop :=
  ∃ v, e = .returned v ∧ w'.ownsRow w.heap.size 3 1 v r.1.length (iv r.1) ∧ FormAt w' p mv ma ov r.2 ∧ Keeps [p, ma] w w'
set_option maxHeartbeats 1000000 in
theorem ints_calls (t : Int) (h : FormAt w p mv ma ov F) (hs : ∀ s, assoc F.vals t = some s → s.size ≤ 4000000000) (hg : Glob w) (most lo hi : Int) : Calls Tryd.prog 35 #[.pointer (some ⟨p, 0, none⟩), .int .i64 t, .int .i64 most, .int .i64 lo, .int .i64 hi] w (IntsPost w p mv ma ov (askIs F t most lo hi)) := by
  have hlt := h.asked.lt
  obtain ⟨W0, hW0⟩ : ∃ W0 : World, W0 = ((w.alloc (.cells #[.int .i64 most] 3)).alloc (.cells #[.int .i64 lo] 3)).alloc (.cells #[.int .i64 hi] 3) := ⟨_, rfl⟩
  have hx : Ext w W0 := by rw [hW0]; exact (((Ext.refl w).alloc _).alloc _).alloc _
  have h0 : FormAt W0 p mv ma ov F := h.ext hx
  have cm : W0.cell? ⟨w.heap.size, 0, none⟩ = some (.int .i64 most) := by
    rw [hW0, cell_of ((heap_alloc_lt _ _ (by rw [size_alloc, size_alloc]; omega)).trans ((heap_alloc_lt _ _ (by rw [size_alloc]; omega)).trans (heap_alloc_at w _)))]; rfl
  have cl : W0.cell? ⟨w.heap.size + 1, 0, none⟩ = some (.int .i64 lo) := by
    rw [hW0, cell_of ((heap_alloc_lt _ _ (by rw [size_alloc, size_alloc]; omega)).trans (by have := heap_alloc_at (w.alloc (.cells #[.int .i64 most] 3)) (.cells #[.int .i64 lo] 3); rwa [size_alloc] at this))]; rfl
  have ch : W0.cell? ⟨w.heap.size + 1 + 1, 0, none⟩ = some (.int .i64 hi) := by
    rw [hW0, cell_of (by have := heap_alloc_at ((w.alloc (.cells #[.int .i64 most] 3)).alloc (.cells #[.int .i64 lo] 3)) (.cells #[.int .i64 hi] 3); rwa [size_alloc, size_alloc] at this)]; rfl
  have hk0 : Keeps [p, ma] w W0 := Keeps.of_ext hx _
  have HK := Lib.hid hk0
  clear hk0
  by_cases he : F.e = 0
  · cases ha : assoc F.vals t with
    | none =>
      rw [show askIs F t most lo hi = ([], failF F t 110) by simp [askIs, he, ha]]
      have HC := Lib.hid (askInts_none W0 h0 he t ha (.func (.func 52) #[] #[.pointer (some ⟨w.heap.size, 0, none⟩), .pointer (some ⟨w.heap.size + 1, 0, none⟩), .pointer (some ⟨w.heap.size + 1 + 1, 0, none⟩)]))
      subst hW0
      clear he ha hs cm cl ch h0 hx
      go_enter Tryd.func35, Tryd.ntmps35
      go_wp2_with (go_at_call 51; refine HC.out.mono ?_; rintro e w' ⟨rfl, h1, h2⟩)
      go_ret
      exact ⟨_, rfl, World.ownsRow_nil _ _ _ _, h1, HK.out.trans h2⟩
    | some s =>
      have hT : ∀ W, Keeps [ma] W0 W → Calls Tryd.prog 52 #[.string s, .pointer (some ⟨w.heap.size, 0, none⟩), .pointer (some ⟨w.heap.size + 1, 0, none⟩), .pointer (some ⟨w.heap.size + 1 + 1, 0, none⟩)] W (Ints1Post W s most lo hi) := fun W hW =>
        ints1_calls W s (by have := hs s ha; omega) (h0.glob W0 (hg.ext hx) (hW.mono (by simp))) most lo hi _ _ _ (keeps_cell hW cm (by simp; omega)) (keeps_cell hW cl (by simp; omega)) (keeps_cell hW ch (by simp; omega))
      have hsz0 : ∀ W, Keeps [ma] W0 W → w.heap.size ≤ W.heap.size := fun W hW => Nat.le_trans hx.size hW.size
      by_cases hr : intsE most lo hi (numsR s) = 0
      · rw [show askIs F t most lo hi = ((numsR s).getD [], markF F t) by simp [askIs, he, ha, hr]]
        have HC := Lib.hid (askInts_ok W0 h0 he t s ha _ _ _ (fun v w' => w'.ownsRow w.heap.size 3 1 v ((numsR s).getD []).length (iv ((numsR s).getD []))) (fun W hW => (hT W hW).mono (fun e w' ⟨v, h1, h3, h2⟩ => ⟨v, by rw [h1, hr], ownsRow_mono (h3 hr) (hsz0 W hW), h2⟩)))
        subst hW0
        clear he ha hs cm cl ch h0 hx hT hr hsz0
        go_enter Tryd.func35, Tryd.ntmps35
        go_wp2_with (go_at_call 51; refine HC.out.mono ?_; rintro e w' ⟨v, rfl, hq, h1, h2⟩)
        go_ret
        exact ⟨v, rfl, hq, h1, HK.out.trans h2⟩
      · rw [show askIs F t most lo hi = ([], failF F t (intsE most lo hi (numsR s))) by simp [askIs, he, ha, hr]]
        have HC := Lib.hid (askInts_bad W0 h0 he t s ha _ _ _ _ hr (fun W hW => (hT W hW).mono (fun e w' ⟨v, h1, _, h2⟩ => ⟨v, h1, h2⟩)))
        subst hW0
        clear he ha hs cm cl ch h0 hx hT hr hsz0
        go_enter Tryd.func35, Tryd.ntmps35
        go_wp2_with (go_at_call 51; refine HC.out.mono ?_; rintro e w' ⟨rfl, h1, h2⟩)
        go_ret
        exact ⟨_, rfl, World.ownsRow_nil _ _ _ _, h1, HK.out.trans h2⟩
  · rw [show askIs F t most lo hi = ([], F) by simp [askIs, he]]
    have HC := Lib.hid (askInts_err W0 h0 he t (.func (.func 52) #[] #[.pointer (some ⟨w.heap.size, 0, none⟩), .pointer (some ⟨w.heap.size + 1, 0, none⟩), .pointer (some ⟨w.heap.size + 1 + 1, 0, none⟩)]))
    have H0 := Lib.hid h0
    subst hW0
    clear he hs cm cl ch h0 hx
    go_enter Tryd.func35, Tryd.ntmps35
    go_wp2_with (go_at_call 51; refine HC.out.mono ?_; rintro e w' ⟨rfl, rfl⟩)
    go_ret
    exact ⟨_, rfl, World.ownsRow_nil _ _ _ _, H0.out, HK.out⟩
end
end Go.Proofs.YtphnfbjbpbfpkaaDoor
