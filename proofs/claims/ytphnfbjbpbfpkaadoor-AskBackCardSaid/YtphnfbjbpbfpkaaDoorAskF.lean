/- ask.read: an ask's fields are asked for one after another. -/
import Derived.Test.YtphnfbjbpbfpkaaDoorAskE
namespace Go.Proofs.YtphnfbjbpbfpkaaDoor
open Go.RowKit
set_option maxRecDepth 100000

/-- A form, and an ask in a block of its own. -/
structure RS (W w : World) (p mv ma : Nat) (ov : Value) (F : FormS) (pa : Nat) (cs : Array Value) : Prop where
  form : FormAt w p mv ma ov F
  blk : w.heap[pa]? = some (.cells cs 24 (0, 0))
  keep : Keeps [p, ma, pa] W w
  vals : ∀ t s, assoc F.vals t = some s → s.size ≤ 4000000000
  glob : Glob w
  kind : ∃ k, cs[0]? = some (.int .i64 k)

theorem askN_vals (F : FormS) (t : Int) : (askN F t).2.vals = F.vals := by
  unfold askN; repeat' split
  all_goals rfl
theorem askI_vals (F : FormS) (t lo hi : Int) : (askI F t lo hi).2.vals = F.vals := by
  unfold askI; repeat' split
  all_goals rfl
theorem askIs_vals (F : FormS) (t most lo hi : Int) : (askIs F t most lo hi).2.vals = F.vals := by
  unfold askIs; repeat' split
  all_goals rfl

section
variable {W w : World} {p mv ma pa : Nat} {ov : Value} {F : FormS} {cs : Array Value}
theorem RS.pa_p (h : RS W w p mv ma ov F pa cs) : pa ≠ p := by
  intro e
  have := h.form.blk
  rw [← e, h.blk] at this
  injection this with this
  injection this with _ h2
  exact absurd h2 (by decide)
theorem RS.pa_ma (h : RS W w p mv ma ov F pa cs) : pa ≠ ma := by
  intro e
  obtain ⟨es, c, hm, _⟩ := h.form.asked
  rw [← e, h.blk] at hm
  cases hm
theorem RS.pa_mv (h : RS W w p mv ma ov F pa cs) : pa ≠ mv := by
  intro e
  obtain ⟨es, c, hm, _⟩ := h.form.vals
  rw [← e, h.blk] at hm
  cases hm
theorem RS.cell (h : RS W w p mv ma ov F pa cs) (i : Nat) : w.cell? ⟨pa, i, none⟩ = cs[i]? := cell_of h.blk
theorem RS.frozen (h : RS W w p mv ma ov F pa cs) (i : Nat) : w.frozen? ⟨pa, i, none⟩ = false := frozen_of h.blk
theorem RS.step {w' : World} {F' : FormS} (h : RS W w p mv ma ov F pa cs) (hf : FormAt w' p mv ma ov F') (hk : Keeps [p, ma] w w') (hv : F'.vals = F.vals) : RS W w' p mv ma ov F' pa cs :=
  ⟨hf, (hk.block pa (heap_lt h.blk) (by simp; exact ⟨h.pa_p, h.pa_ma⟩)).trans h.blk, h.keep.trans (hk.mono (by simp)), by rw [hv]; exact h.vals, h.form.glob w h.glob hk, h.kind⟩
theorem RS.put (h : RS W w p mv ma ov F pa cs) (i : Nat) (u : Value) (hi : 0 < i) : RS W (w.setCell ⟨pa, i, none⟩ u) p mv ma ov F pa (cs.setIfInBounds i u) := by
  obtain ⟨k, hk⟩ := h.kind
  have hk' : (cs.setIfInBounds i u)[0]? = some (.int .i64 k) := by rw [Array.getElem?_setIfInBounds_ne (by omega)]; exact hk
  refine ⟨⟨(heap_set_ne _ _ _ (Ne.symm h.pa_p)).trans h.form.blk, own_set_ne h.form.ord h.blk (by decide) _ _, h.form.vals.keep (heap_set_ne _ _ _ (Ne.symm h.pa_mv)), h.form.asked.keep (heap_set_ne _ _ _ (Ne.symm h.pa_ma)), h.form.ne⟩, heap_set_at h.blk u, h.keep.setCell (.inl (by simp)) u, h.vals, ?_, ⟨k, hk'⟩⟩
  obtain ⟨⟨m, hm⟩, ht⟩ := h.glob
  refine ⟨⟨m, ?_⟩, ?_⟩
  · by_cases hp : 1 = pa
    · rw [hp, cell_of (heap_set_at h.blk u), Array.getElem?_setIfInBounds_ne (by omega), ← cell_of h.blk, ← hp]; exact hm
    · rw [World.cell?_of_block (w := w) (a := ⟨1, 0, none⟩) (heap_set_ne _ _ _ hp)]; exact hm
  · unfold Lib.TabIs World.var? at ht ⊢
    revert ht
    cases hg : Tryd.prog.globalNamed "internal/strconv.uint64pow10" with
    | none => exact id
    | some g =>
      intro ht
      simp only [Option.bind_some] at ht ⊢
      cases hh : w.heap[g]? with
      | none => rw [hh] at ht; cases ht
      | some o =>
        rw [hh] at ht
        cases o with
        | cells cs2 t fz =>
          simp only [Option.some.injEq] at ht
          have hgp : g ≠ pa := by
            rintro rfl
            rw [h.blk] at hh
            injection hh with hh
            injection hh with h1 _ _
            rw [h1, ht] at hk
            have hk2 : some (Value.int .u64 1) = some (Value.int .i64 k) := hk
            injection hk2 with hk2
            cases hk2
          rw [heap_set_ne _ _ _ hgp, hh]
          simp only [Option.some.injEq]
          exact ht
        | _ => cases ht
end

theorem RS.put_as {W w : World} {p mv ma pa : Nat} {ov : Value} {F : FormS} {cs cs' : Array Value} (h : RS W w p mv ma ov F pa cs) (i : Nat) (u : Value) (hi : 0 < i) (he : cs.setIfInBounds i u = cs') : RS W (w.setCell ⟨pa, i, none⟩ u) p mv ma ov F pa cs' := he ▸ h.put i u hi
theorem RS.name {W w : World} {p mv ma pa : Nat} {ov : Value} {F : FormS} {cs : Array Value} (h : RS W w p mv ma ov F pa cs) (t : Int) : Calls Tryd.prog 33 #[.pointer (some ⟨p, 0, none⟩), .int .i64 t] w fun e w' =>
    e = .returned (.string (askN F t).1) ∧ RS W w' p mv ma ov (askN F t).2 pa cs :=
  (name_calls w h.form t).mono (fun e w' ⟨he, hf, hk⟩ => ⟨he, h.step hf hk (askN_vals F t)⟩)
theorem RS.int {W w : World} {p mv ma pa : Nat} {ov : Value} {F : FormS} {cs : Array Value} (h : RS W w p mv ma ov F pa cs) (t lo hi : Int) : Calls Tryd.prog 34 #[.pointer (some ⟨p, 0, none⟩), .int .i64 t, .int .i64 lo, .int .i64 hi] w fun e w' =>
    e = .returned (.int .i64 (askI F t lo hi).1) ∧ RS W w' p mv ma ov (askI F t lo hi).2 pa cs :=
  (int_calls w t h.form (h.vals t) lo hi).mono (fun e w' ⟨he, hf, hk⟩ => ⟨he, h.step hf hk (askI_vals F t lo hi)⟩)
theorem RS.ints {W w : World} {p mv ma pa : Nat} {ov : Value} {F : FormS} {cs : Array Value} (h : RS W w p mv ma ov F pa cs) (t most lo hi : Int) : Calls Tryd.prog 35 #[.pointer (some ⟨p, 0, none⟩), .int .i64 t, .int .i64 most, .int .i64 lo, .int .i64 hi] w fun e w' =>
    ∃ v, e = .returned v ∧ w'.ownsRow w.heap.size 3 1 v (askIs F t most lo hi).1.length (iv (askIs F t most lo hi).1) ∧ RS W w' p mv ma ov (askIs F t most lo hi).2 pa cs :=
  (ints_calls w t h.form (h.vals t) h.glob most lo hi).mono (fun e w' ⟨v, he, ho, hf, hk⟩ => ⟨v, he, ho, h.step hf hk (askIs_vals F t most lo hi)⟩)

/-! ### what is read -/
def f1 (F : FormS) : FormS := (askN F 11).2
def f2 (F : FormS) : FormS := (askN (f1 F) 1).2
def f3 (F : FormS) : FormS := (askN (f2 F) 55).2
def f4 (F : FormS) : FormS := (askI (f3 F) 54 1 2).2
def f5 (F : FormS) : FormS := (askI (f4 F) 38 1 1099511627776).2
def f6 (F : FormS) : FormS := (askI (f5 F) 44 1 1099511627776).2
def f7 (F : FormS) : FormS := (askI (f6 F) 5001 1 4).2
def f8 (F : FormS) : FormS := (askI (f7 F) 5002 0 1099511627776).2
def f9 (F : FormS) : FormS := (askI (f8 F) 5003 0 1099511627776).2
def algoOf (F : FormS) : Int := (askI (f6 F) 5001 1 4).1
def newOf (F : FormS) (rate shown : Int) (curve : List Int) : Ask :=
  ⟨1, (askN F 11).1, ⟨#[]⟩, (askN (f1 F) 1).1, (askN (f2 F) 55).1, (askI (f3 F) 54 1 2).1, (askI (f4 F) 38 1 1099511627776).1, (askI (f5 F) 44 1 1099511627776).1, algoOf F, (askI (f7 F) 5002 0 1099511627776).1, (askI (f8 F) 5003 0 1099511627776).1, rate, shown, curve⟩
def readNew (F : FormS) : Ask × FormS :=
  if algoOf F = 2 then (newOf F 0 0 (askIs (f9 F) 5006 64 0 1048576).1, (askIs (f9 F) 5006 64 0 1048576).2)
  else if algoOf F = 3 then (newOf F (askI (f9 F) 5004 1 10000).1 0 [], (askI (f9 F) 5004 1 10000).2)
  else if algoOf F = 4 then (newOf F 0 (askI (f9 F) 5005 1 1099511627776).1 [], (askI (f9 F) 5005 1 1099511627776).2)
  else (newOf F 0 0 [], f9 F)
def g2 (F : FormS) : FormS := (askN (f1 F) 41).2
def g3 (F : FormS) : FormS := (askI (g2 F) 38 1 1099511627776).2
def g4 (F : FormS) : FormS := (askI (g3 F) 44 1 1099511627776).2
def readAmend (F : FormS) : Ask × FormS :=
  (⟨3, (askN F 11).1, (askN (f1 F) 41).1, ⟨#[]⟩, ⟨#[]⟩, 0, (askI (g2 F) 38 1 1099511627776).1, (askI (g3 F) 44 1 1099511627776).1, 0, 0, (askI (g4 F) 5003 0 1099511627776).1, 0, 0, []⟩, (askI (g4 F) 5003 0 1099511627776).2)
def readPlain (k : Int) (F : FormS) : Ask × FormS :=
  (⟨k, (askN F 11).1, (askN (f1 F) 41).1, ⟨#[]⟩, ⟨#[]⟩, 0, 0, 0, 0, 0, 0, 0, 0, []⟩, g2 F)
def readAsk (k : Int) (F : FormS) : Ask × FormS := if k = 1 then readNew F else if k = 3 then readAmend F else readPlain k F
abbrev zeroCells (k : Int) (c : Value) : Array Value := #[.int .i64 k, .string ⟨#[]⟩, .string ⟨#[]⟩, .string ⟨#[]⟩, .string ⟨#[]⟩, .int .i64 0, .int .i64 0, .int .i64 0, .int .i64 0, .int .i64 0, .int .i64 0, .int .i64 0, .int .i64 0, c]
def zeroAsk (k : Int) : Ask := ⟨k, ⟨#[]⟩, ⟨#[]⟩, ⟨#[]⟩, ⟨#[]⟩, 0, 0, 0, 0, 0, 0, 0, 0, []⟩

def ReadAskPost (W : World) (p mv ma : Nat) (ov : Value) (pa : Nat) (r : Ask × FormS) (e : Ending) (w' : World) : Prop :=
  e = .returned (.tuple #[]) ∧ ∃ c, RS W w' p mv ma ov r.2 pa (r.1.cells c) ∧ Ints w' c r.1.curve

set_option maxHeartbeats 8000000 in
theorem readPlain_calls (W w : World) {p mv ma pa : Nat} {ov : Value} {F : FormS} (k : Int) (hk1 : k ≠ 1) (hk3 : k ≠ 3) (h : RS W w p mv ma ov F pa (zeroCells k (.slice none 0 0))) :
    Calls Tryd.prog 17 #[.pointer (some ⟨p, 0, none⟩), .pointer (some ⟨pa, 0, none⟩)] w (ReadAskPost W p mv ma ov pa (readPlain k F)) := by
  have HN := Lib.hid (fun (w1 : World) F cs (h : RS W w1 p mv ma ov F pa cs) => h.name)
  have HI := Lib.hid (fun (w1 : World) F cs (h : RS W w1 p mv ma ov F pa cs) => h.int)
  have HL := Lib.hid (fun (w1 : World) F cs (h : RS W w1 p mv ma ov F pa cs) => h.ints)
  have b1 : (k == 1) = false := beq_eq_false_iff_ne.mpr hk1
  have b3 : (k == 3) = false := beq_eq_false_iff_ne.mpr hk3
  have n1 : (k != 1) = true := by rw [bne, b1]; rfl
  have n3 : (k != 3) = true := by rw [bne, b3]; rfl
  clear hk1 hk3
  have hq := h.cell
  have hz := h.frozen
  have hS := Lib.hid h
  clear h
  go_enter Tryd.func17, Tryd.ntmps17
  go_wp2_with (first
    | (go_at_call 33; first
      | (with_reducible refine (HN.out _ _ _ hS.out _).mono ?_; rintro e wn ⟨rfl, hSn⟩; clear hq hz hS; have hq := hSn.cell; have hz := hSn.frozen; have hS := Lib.hid hSn; clear hSn)
      | (with_reducible refine (HN.out _ _ _ (hS.out.put _ _ (by decide)) _).mono ?_; rintro e wn ⟨rfl, hSn⟩; clear hq hz hS; have hq := hSn.cell; have hz := hSn.frozen; have hS := Lib.hid hSn; clear hSn)))
  go_end0
  exact ⟨rfl, _, hS.out.put _ _ (by decide), SlAt.nil _ _⟩
set_option maxHeartbeats 8000000 in
theorem readAmend_calls (W w : World) {p mv ma pa : Nat} {ov : Value} {F : FormS} (h : RS W w p mv ma ov F pa (zeroCells 3 (.slice none 0 0))) :
    Calls Tryd.prog 17 #[.pointer (some ⟨p, 0, none⟩), .pointer (some ⟨pa, 0, none⟩)] w (ReadAskPost W p mv ma ov pa (readAmend F)) := by
  have HN := Lib.hid (fun (w1 : World) F cs (h : RS W w1 p mv ma ov F pa cs) => h.name)
  have HI := Lib.hid (fun (w1 : World) F cs (h : RS W w1 p mv ma ov F pa cs) => h.int)
  have HL := Lib.hid (fun (w1 : World) F cs (h : RS W w1 p mv ma ov F pa cs) => h.ints)
  have hq := h.cell
  have hz := h.frozen
  have hS := Lib.hid h
  clear h
  go_enter Tryd.func17, Tryd.ntmps17
  go_wp2_with (first
    | (go_at_call 33; first
      | (with_reducible refine (HN.out _ _ _ hS.out _).mono ?_; rintro e wn ⟨rfl, hSn⟩; clear hq hz hS; have hq := hSn.cell; have hz := hSn.frozen; have hS := Lib.hid hSn; clear hSn)
      | (with_reducible refine (HN.out _ _ _ (hS.out.put _ _ (by decide)) _).mono ?_; rintro e wn ⟨rfl, hSn⟩; clear hq hz hS; have hq := hSn.cell; have hz := hSn.frozen; have hS := Lib.hid hSn; clear hSn))
    | (go_at_call 34; first
      | (with_reducible refine (HI.out _ _ _ hS.out _ _ _).mono ?_; rintro e wn ⟨rfl, hSn⟩; clear hq hz hS; have hq := hSn.cell; have hz := hSn.frozen; have hS := Lib.hid hSn; clear hSn)
      | (with_reducible refine (HI.out _ _ _ (hS.out.put _ _ (by decide)) _ _ _).mono ?_; rintro e wn ⟨rfl, hSn⟩; clear hq hz hS; have hq := hSn.cell; have hz := hSn.frozen; have hS := Lib.hid hSn; clear hSn)))
  go_end0
  exact ⟨rfl, _, hS.out.put _ _ (by decide), SlAt.nil _ _⟩
set_option maxHeartbeats 8000000 in
theorem readNewVwap_calls (W w : World) {p mv ma pa : Nat} {ov : Value} {F : FormS} (ha : algoOf F = 2) (h : RS W w p mv ma ov F pa (zeroCells 1 (.slice none 0 0))) :
    Calls Tryd.prog 17 #[.pointer (some ⟨p, 0, none⟩), .pointer (some ⟨pa, 0, none⟩)] w (ReadAskPost W p mv ma ov pa (readNew F)) := by
  rw [show readNew F = (newOf F 0 0 (askIs (f9 F) 5006 64 0 1048576).1, (askIs (f9 F) 5006 64 0 1048576).2) by simp [readNew, ha]]
  have H1 := Lib.hid (show ∀ (w1 : World) cs, RS W w1 p mv ma ov F pa cs → Calls Tryd.prog 33 #[.pointer (some ⟨p, 0, none⟩), .int .i64 11] w1 fun e w' => e = .returned (.string (askN F 11).1) ∧ RS W w' p mv ma ov (f1 F) pa cs from fun w1 cs h => h.name _)
  have H2 := Lib.hid (show ∀ (w1 : World) cs, RS W w1 p mv ma ov (f1 F) pa cs → Calls Tryd.prog 33 #[.pointer (some ⟨p, 0, none⟩), .int .i64 1] w1 fun e w' => e = .returned (.string (askN (f1 F) 1).1) ∧ RS W w' p mv ma ov (f2 F) pa cs from fun w1 cs h => h.name _)
  have H3 := Lib.hid (show ∀ (w1 : World) cs, RS W w1 p mv ma ov (f2 F) pa cs → Calls Tryd.prog 33 #[.pointer (some ⟨p, 0, none⟩), .int .i64 55] w1 fun e w' => e = .returned (.string (askN (f2 F) 55).1) ∧ RS W w' p mv ma ov (f3 F) pa cs from fun w1 cs h => h.name _)
  have H4 := Lib.hid (show ∀ (w1 : World) cs, RS W w1 p mv ma ov (f3 F) pa cs → Calls Tryd.prog 34 #[.pointer (some ⟨p, 0, none⟩), .int .i64 54, .int .i64 1, .int .i64 2] w1 fun e w' => e = .returned (.int .i64 (askI (f3 F) 54 1 2).1) ∧ RS W w' p mv ma ov (f4 F) pa cs from fun w1 cs h => h.int _ _ _)
  have H5 := Lib.hid (show ∀ (w1 : World) cs, RS W w1 p mv ma ov (f4 F) pa cs → Calls Tryd.prog 34 #[.pointer (some ⟨p, 0, none⟩), .int .i64 38, .int .i64 1, .int .i64 1099511627776] w1 fun e w' => e = .returned (.int .i64 (askI (f4 F) 38 1 1099511627776).1) ∧ RS W w' p mv ma ov (f5 F) pa cs from fun w1 cs h => h.int _ _ _)
  have H6 := Lib.hid (show ∀ (w1 : World) cs, RS W w1 p mv ma ov (f5 F) pa cs → Calls Tryd.prog 34 #[.pointer (some ⟨p, 0, none⟩), .int .i64 44, .int .i64 1, .int .i64 1099511627776] w1 fun e w' => e = .returned (.int .i64 (askI (f5 F) 44 1 1099511627776).1) ∧ RS W w' p mv ma ov (f6 F) pa cs from fun w1 cs h => h.int _ _ _)
  have H7 := Lib.hid (show ∀ (w1 : World) cs, RS W w1 p mv ma ov (f6 F) pa cs → Calls Tryd.prog 34 #[.pointer (some ⟨p, 0, none⟩), .int .i64 5001, .int .i64 1, .int .i64 4] w1 fun e w' => e = .returned (.int .i64 (algoOf F)) ∧ RS W w' p mv ma ov (f7 F) pa cs from fun w1 cs h => h.int _ _ _)
  have H8 := Lib.hid (show ∀ (w1 : World) cs, RS W w1 p mv ma ov (f7 F) pa cs → Calls Tryd.prog 34 #[.pointer (some ⟨p, 0, none⟩), .int .i64 5002, .int .i64 0, .int .i64 1099511627776] w1 fun e w' => e = .returned (.int .i64 (askI (f7 F) 5002 0 1099511627776).1) ∧ RS W w' p mv ma ov (f8 F) pa cs from fun w1 cs h => h.int _ _ _)
  have H9 := Lib.hid (show ∀ (w1 : World) cs, RS W w1 p mv ma ov (f8 F) pa cs → Calls Tryd.prog 34 #[.pointer (some ⟨p, 0, none⟩), .int .i64 5003, .int .i64 0, .int .i64 1099511627776] w1 fun e w' => e = .returned (.int .i64 (askI (f8 F) 5003 0 1099511627776).1) ∧ RS W w' p mv ma ov (f9 F) pa cs from fun w1 cs h => h.int _ _ _)
  have H10 := Lib.hid (show ∀ (w1 : World) cs, RS W w1 p mv ma ov (f9 F) pa cs → Calls Tryd.prog 35 #[.pointer (some ⟨p, 0, none⟩), .int .i64 5006, .int .i64 64, .int .i64 0, .int .i64 1048576] w1 fun e w' => ∃ v, e = .returned v ∧ w'.ownsRow w1.heap.size 3 1 v (askIs (f9 F) 5006 64 0 1048576).1.length (iv (askIs (f9 F) 5006 64 0 1048576).1) ∧ RS W w' p mv ma ov (askIs (f9 F) 5006 64 0 1048576).2 pa cs from fun w1 cs h => h.ints _ _ _ _)
  have b2 : (algoOf F == 2) = true := beq_iff_eq.mpr ha
  clear ha
  have hq := h.cell
  have hz := h.frozen
  have hS := Lib.hid h
  clear h
  go_enter Tryd.func17, Tryd.ntmps17
  go_wp2_with (first
    | (go_at_call 33; first
      | (with_reducible refine (H1.out _ _ hS.out).mono ?_; rintro e wn ⟨rfl, hSn⟩; clear hq hz hS; have hq := hSn.cell; have hz := hSn.frozen; have hS := Lib.hid hSn; clear hSn)
      | (with_reducible refine (H2.out _ _ (hS.out.put _ _ (by decide))).mono ?_; rintro e wn ⟨rfl, hSn⟩; clear hq hz hS; have hq := hSn.cell; have hz := hSn.frozen; have hS := Lib.hid hSn; clear hSn)
      | (with_reducible refine (H3.out _ _ (hS.out.put _ _ (by decide))).mono ?_; rintro e wn ⟨rfl, hSn⟩; clear hq hz hS; have hq := hSn.cell; have hz := hSn.frozen; have hS := Lib.hid hSn; clear hSn))
    | (go_at_call 34; first
      | (with_reducible refine (H4.out _ _ (hS.out.put _ _ (by decide))).mono ?_; rintro e wn ⟨rfl, hSn⟩; clear hq hz hS; have hq := hSn.cell; have hz := hSn.frozen; have hS := Lib.hid hSn; clear hSn)
      | (with_reducible refine (H5.out _ _ (hS.out.put _ _ (by decide))).mono ?_; rintro e wn ⟨rfl, hSn⟩; clear hq hz hS; have hq := hSn.cell; have hz := hSn.frozen; have hS := Lib.hid hSn; clear hSn)
      | (with_reducible refine (H6.out _ _ (hS.out.put _ _ (by decide))).mono ?_; rintro e wn ⟨rfl, hSn⟩; clear hq hz hS; have hq := hSn.cell; have hz := hSn.frozen; have hS := Lib.hid hSn; clear hSn)
      | (with_reducible refine (H7.out _ _ (hS.out.put _ _ (by decide))).mono ?_; rintro e wn ⟨rfl, hSn⟩; clear hq hz hS; have hq := hSn.cell; have hz := hSn.frozen; have hS := Lib.hid hSn; clear hSn)
      | (with_reducible refine (H8.out _ _ (hS.out.put _ _ (by decide))).mono ?_; rintro e wn ⟨rfl, hSn⟩; clear hq hz hS; have hq := hSn.cell; have hz := hSn.frozen; have hS := Lib.hid hSn; clear hSn)
      | (with_reducible refine (H9.out _ _ (hS.out.put _ _ (by decide))).mono ?_; rintro e wn ⟨rfl, hSn⟩; clear hq hz hS; have hq := hSn.cell; have hz := hSn.frozen; have hS := Lib.hid hSn; clear hSn))
    | (go_at_call 35; with_reducible refine (H10.out _ _ (hS.out.put _ _ (by decide))).mono ?_; rintro e wn ⟨v, rfl, hown, hSn⟩; clear hq hz hS; have hq := hSn.cell; have hz := hSn.frozen; have hS := Lib.hid hSn; clear hSn; have hO := Lib.hid hown; clear hown; obtain ⟨vA, vc, rfl⟩ := ownsRow_form hO.out))
  go_end0
  exact ⟨rfl, .slice vA _ vc, hS.out.put_as _ _ (by decide) (by simp [newOf]), SlAt.of_own (own_set_ne hO.out hS.out.blk (by decide) _ _)⟩
set_option maxHeartbeats 8000000 in
theorem readNewFlow_calls (W w : World) {p mv ma pa : Nat} {ov : Value} {F : FormS} (ha : algoOf F = 3) (h : RS W w p mv ma ov F pa (zeroCells 1 (.slice none 0 0))) :
    Calls Tryd.prog 17 #[.pointer (some ⟨p, 0, none⟩), .pointer (some ⟨pa, 0, none⟩)] w (ReadAskPost W p mv ma ov pa (readNew F)) := by
  rw [show readNew F = (newOf F (askI (f9 F) 5004 1 10000).1 0 [], (askI (f9 F) 5004 1 10000).2) by simp [readNew, ha]]
  have H1 := Lib.hid (show ∀ (w1 : World) cs, RS W w1 p mv ma ov F pa cs → Calls Tryd.prog 33 #[.pointer (some ⟨p, 0, none⟩), .int .i64 11] w1 fun e w' => e = .returned (.string (askN F 11).1) ∧ RS W w' p mv ma ov (f1 F) pa cs from fun w1 cs h => h.name _)
  have H2 := Lib.hid (show ∀ (w1 : World) cs, RS W w1 p mv ma ov (f1 F) pa cs → Calls Tryd.prog 33 #[.pointer (some ⟨p, 0, none⟩), .int .i64 1] w1 fun e w' => e = .returned (.string (askN (f1 F) 1).1) ∧ RS W w' p mv ma ov (f2 F) pa cs from fun w1 cs h => h.name _)
  have H3 := Lib.hid (show ∀ (w1 : World) cs, RS W w1 p mv ma ov (f2 F) pa cs → Calls Tryd.prog 33 #[.pointer (some ⟨p, 0, none⟩), .int .i64 55] w1 fun e w' => e = .returned (.string (askN (f2 F) 55).1) ∧ RS W w' p mv ma ov (f3 F) pa cs from fun w1 cs h => h.name _)
  have H4 := Lib.hid (show ∀ (w1 : World) cs, RS W w1 p mv ma ov (f3 F) pa cs → Calls Tryd.prog 34 #[.pointer (some ⟨p, 0, none⟩), .int .i64 54, .int .i64 1, .int .i64 2] w1 fun e w' => e = .returned (.int .i64 (askI (f3 F) 54 1 2).1) ∧ RS W w' p mv ma ov (f4 F) pa cs from fun w1 cs h => h.int _ _ _)
  have H5 := Lib.hid (show ∀ (w1 : World) cs, RS W w1 p mv ma ov (f4 F) pa cs → Calls Tryd.prog 34 #[.pointer (some ⟨p, 0, none⟩), .int .i64 38, .int .i64 1, .int .i64 1099511627776] w1 fun e w' => e = .returned (.int .i64 (askI (f4 F) 38 1 1099511627776).1) ∧ RS W w' p mv ma ov (f5 F) pa cs from fun w1 cs h => h.int _ _ _)
  have H6 := Lib.hid (show ∀ (w1 : World) cs, RS W w1 p mv ma ov (f5 F) pa cs → Calls Tryd.prog 34 #[.pointer (some ⟨p, 0, none⟩), .int .i64 44, .int .i64 1, .int .i64 1099511627776] w1 fun e w' => e = .returned (.int .i64 (askI (f5 F) 44 1 1099511627776).1) ∧ RS W w' p mv ma ov (f6 F) pa cs from fun w1 cs h => h.int _ _ _)
  have H7 := Lib.hid (show ∀ (w1 : World) cs, RS W w1 p mv ma ov (f6 F) pa cs → Calls Tryd.prog 34 #[.pointer (some ⟨p, 0, none⟩), .int .i64 5001, .int .i64 1, .int .i64 4] w1 fun e w' => e = .returned (.int .i64 (algoOf F)) ∧ RS W w' p mv ma ov (f7 F) pa cs from fun w1 cs h => h.int _ _ _)
  have H8 := Lib.hid (show ∀ (w1 : World) cs, RS W w1 p mv ma ov (f7 F) pa cs → Calls Tryd.prog 34 #[.pointer (some ⟨p, 0, none⟩), .int .i64 5002, .int .i64 0, .int .i64 1099511627776] w1 fun e w' => e = .returned (.int .i64 (askI (f7 F) 5002 0 1099511627776).1) ∧ RS W w' p mv ma ov (f8 F) pa cs from fun w1 cs h => h.int _ _ _)
  have H9 := Lib.hid (show ∀ (w1 : World) cs, RS W w1 p mv ma ov (f8 F) pa cs → Calls Tryd.prog 34 #[.pointer (some ⟨p, 0, none⟩), .int .i64 5003, .int .i64 0, .int .i64 1099511627776] w1 fun e w' => e = .returned (.int .i64 (askI (f8 F) 5003 0 1099511627776).1) ∧ RS W w' p mv ma ov (f9 F) pa cs from fun w1 cs h => h.int _ _ _)
  have H10 := Lib.hid (show ∀ (w1 : World) cs, RS W w1 p mv ma ov (f9 F) pa cs → Calls Tryd.prog 34 #[.pointer (some ⟨p, 0, none⟩), .int .i64 5004, .int .i64 1, .int .i64 10000] w1 fun e w' => e = .returned (.int .i64 (askI (f9 F) 5004 1 10000).1) ∧ RS W w' p mv ma ov (askI (f9 F) 5004 1 10000).2 pa cs from fun w1 cs h => h.int _ _ _)
  have b2 : (algoOf F == 2) = false := by rw [ha]; rfl
  have b3 : (algoOf F == 3) = true := beq_iff_eq.mpr ha
  clear ha
  have hq := h.cell
  have hz := h.frozen
  have hS := Lib.hid h
  clear h
  go_enter Tryd.func17, Tryd.ntmps17
  go_wp2_with (first
    | (go_at_call 33; first
      | (with_reducible refine (H1.out _ _ hS.out).mono ?_; rintro e wn ⟨rfl, hSn⟩; clear hq hz hS; have hq := hSn.cell; have hz := hSn.frozen; have hS := Lib.hid hSn; clear hSn)
      | (with_reducible refine (H2.out _ _ (hS.out.put _ _ (by decide))).mono ?_; rintro e wn ⟨rfl, hSn⟩; clear hq hz hS; have hq := hSn.cell; have hz := hSn.frozen; have hS := Lib.hid hSn; clear hSn)
      | (with_reducible refine (H3.out _ _ (hS.out.put _ _ (by decide))).mono ?_; rintro e wn ⟨rfl, hSn⟩; clear hq hz hS; have hq := hSn.cell; have hz := hSn.frozen; have hS := Lib.hid hSn; clear hSn))
    | (go_at_call 34; first
      | (with_reducible refine (H4.out _ _ (hS.out.put _ _ (by decide))).mono ?_; rintro e wn ⟨rfl, hSn⟩; clear hq hz hS; have hq := hSn.cell; have hz := hSn.frozen; have hS := Lib.hid hSn; clear hSn)
      | (with_reducible refine (H5.out _ _ (hS.out.put _ _ (by decide))).mono ?_; rintro e wn ⟨rfl, hSn⟩; clear hq hz hS; have hq := hSn.cell; have hz := hSn.frozen; have hS := Lib.hid hSn; clear hSn)
      | (with_reducible refine (H6.out _ _ (hS.out.put _ _ (by decide))).mono ?_; rintro e wn ⟨rfl, hSn⟩; clear hq hz hS; have hq := hSn.cell; have hz := hSn.frozen; have hS := Lib.hid hSn; clear hSn)
      | (with_reducible refine (H7.out _ _ (hS.out.put _ _ (by decide))).mono ?_; rintro e wn ⟨rfl, hSn⟩; clear hq hz hS; have hq := hSn.cell; have hz := hSn.frozen; have hS := Lib.hid hSn; clear hSn)
      | (with_reducible refine (H8.out _ _ (hS.out.put _ _ (by decide))).mono ?_; rintro e wn ⟨rfl, hSn⟩; clear hq hz hS; have hq := hSn.cell; have hz := hSn.frozen; have hS := Lib.hid hSn; clear hSn)
      | (with_reducible refine (H9.out _ _ (hS.out.put _ _ (by decide))).mono ?_; rintro e wn ⟨rfl, hSn⟩; clear hq hz hS; have hq := hSn.cell; have hz := hSn.frozen; have hS := Lib.hid hSn; clear hSn)
      | (with_reducible refine (H10.out _ _ (hS.out.put _ _ (by decide))).mono ?_; rintro e wn ⟨rfl, hSn⟩; clear hq hz hS; have hq := hSn.cell; have hz := hSn.frozen; have hS := Lib.hid hSn; clear hSn)))
  go_end0
  exact ⟨rfl, .slice none 0 0, hS.out.put_as _ _ (by decide) (by simp [newOf]), SlAt.nil _ _⟩
set_option maxHeartbeats 8000000 in
theorem readNewBerg_calls (W w : World) {p mv ma pa : Nat} {ov : Value} {F : FormS} (ha : algoOf F = 4) (h : RS W w p mv ma ov F pa (zeroCells 1 (.slice none 0 0))) :
    Calls Tryd.prog 17 #[.pointer (some ⟨p, 0, none⟩), .pointer (some ⟨pa, 0, none⟩)] w (ReadAskPost W p mv ma ov pa (readNew F)) := by
  rw [show readNew F = (newOf F 0 (askI (f9 F) 5005 1 1099511627776).1 [], (askI (f9 F) 5005 1 1099511627776).2) by simp [readNew, ha]]
  have H1 := Lib.hid (show ∀ (w1 : World) cs, RS W w1 p mv ma ov F pa cs → Calls Tryd.prog 33 #[.pointer (some ⟨p, 0, none⟩), .int .i64 11] w1 fun e w' => e = .returned (.string (askN F 11).1) ∧ RS W w' p mv ma ov (f1 F) pa cs from fun w1 cs h => h.name _)
  have H2 := Lib.hid (show ∀ (w1 : World) cs, RS W w1 p mv ma ov (f1 F) pa cs → Calls Tryd.prog 33 #[.pointer (some ⟨p, 0, none⟩), .int .i64 1] w1 fun e w' => e = .returned (.string (askN (f1 F) 1).1) ∧ RS W w' p mv ma ov (f2 F) pa cs from fun w1 cs h => h.name _)
  have H3 := Lib.hid (show ∀ (w1 : World) cs, RS W w1 p mv ma ov (f2 F) pa cs → Calls Tryd.prog 33 #[.pointer (some ⟨p, 0, none⟩), .int .i64 55] w1 fun e w' => e = .returned (.string (askN (f2 F) 55).1) ∧ RS W w' p mv ma ov (f3 F) pa cs from fun w1 cs h => h.name _)
  have H4 := Lib.hid (show ∀ (w1 : World) cs, RS W w1 p mv ma ov (f3 F) pa cs → Calls Tryd.prog 34 #[.pointer (some ⟨p, 0, none⟩), .int .i64 54, .int .i64 1, .int .i64 2] w1 fun e w' => e = .returned (.int .i64 (askI (f3 F) 54 1 2).1) ∧ RS W w' p mv ma ov (f4 F) pa cs from fun w1 cs h => h.int _ _ _)
  have H5 := Lib.hid (show ∀ (w1 : World) cs, RS W w1 p mv ma ov (f4 F) pa cs → Calls Tryd.prog 34 #[.pointer (some ⟨p, 0, none⟩), .int .i64 38, .int .i64 1, .int .i64 1099511627776] w1 fun e w' => e = .returned (.int .i64 (askI (f4 F) 38 1 1099511627776).1) ∧ RS W w' p mv ma ov (f5 F) pa cs from fun w1 cs h => h.int _ _ _)
  have H6 := Lib.hid (show ∀ (w1 : World) cs, RS W w1 p mv ma ov (f5 F) pa cs → Calls Tryd.prog 34 #[.pointer (some ⟨p, 0, none⟩), .int .i64 44, .int .i64 1, .int .i64 1099511627776] w1 fun e w' => e = .returned (.int .i64 (askI (f5 F) 44 1 1099511627776).1) ∧ RS W w' p mv ma ov (f6 F) pa cs from fun w1 cs h => h.int _ _ _)
  have H7 := Lib.hid (show ∀ (w1 : World) cs, RS W w1 p mv ma ov (f6 F) pa cs → Calls Tryd.prog 34 #[.pointer (some ⟨p, 0, none⟩), .int .i64 5001, .int .i64 1, .int .i64 4] w1 fun e w' => e = .returned (.int .i64 (algoOf F)) ∧ RS W w' p mv ma ov (f7 F) pa cs from fun w1 cs h => h.int _ _ _)
  have H8 := Lib.hid (show ∀ (w1 : World) cs, RS W w1 p mv ma ov (f7 F) pa cs → Calls Tryd.prog 34 #[.pointer (some ⟨p, 0, none⟩), .int .i64 5002, .int .i64 0, .int .i64 1099511627776] w1 fun e w' => e = .returned (.int .i64 (askI (f7 F) 5002 0 1099511627776).1) ∧ RS W w' p mv ma ov (f8 F) pa cs from fun w1 cs h => h.int _ _ _)
  have H9 := Lib.hid (show ∀ (w1 : World) cs, RS W w1 p mv ma ov (f8 F) pa cs → Calls Tryd.prog 34 #[.pointer (some ⟨p, 0, none⟩), .int .i64 5003, .int .i64 0, .int .i64 1099511627776] w1 fun e w' => e = .returned (.int .i64 (askI (f8 F) 5003 0 1099511627776).1) ∧ RS W w' p mv ma ov (f9 F) pa cs from fun w1 cs h => h.int _ _ _)
  have H10 := Lib.hid (show ∀ (w1 : World) cs, RS W w1 p mv ma ov (f9 F) pa cs → Calls Tryd.prog 34 #[.pointer (some ⟨p, 0, none⟩), .int .i64 5005, .int .i64 1, .int .i64 1099511627776] w1 fun e w' => e = .returned (.int .i64 (askI (f9 F) 5005 1 1099511627776).1) ∧ RS W w' p mv ma ov (askI (f9 F) 5005 1 1099511627776).2 pa cs from fun w1 cs h => h.int _ _ _)
  have b2 : (algoOf F == 2) = false := by rw [ha]; rfl
  have b3 : (algoOf F == 3) = false := by rw [ha]; rfl
  have b4 : (algoOf F == 4) = true := beq_iff_eq.mpr ha
  clear ha
  have hq := h.cell
  have hz := h.frozen
  have hS := Lib.hid h
  clear h
  go_enter Tryd.func17, Tryd.ntmps17
  go_wp2_with (first
    | (go_at_call 33; first
      | (with_reducible refine (H1.out _ _ hS.out).mono ?_; rintro e wn ⟨rfl, hSn⟩; clear hq hz hS; have hq := hSn.cell; have hz := hSn.frozen; have hS := Lib.hid hSn; clear hSn)
      | (with_reducible refine (H2.out _ _ (hS.out.put _ _ (by decide))).mono ?_; rintro e wn ⟨rfl, hSn⟩; clear hq hz hS; have hq := hSn.cell; have hz := hSn.frozen; have hS := Lib.hid hSn; clear hSn)
      | (with_reducible refine (H3.out _ _ (hS.out.put _ _ (by decide))).mono ?_; rintro e wn ⟨rfl, hSn⟩; clear hq hz hS; have hq := hSn.cell; have hz := hSn.frozen; have hS := Lib.hid hSn; clear hSn))
    | (go_at_call 34; first
      | (with_reducible refine (H4.out _ _ (hS.out.put _ _ (by decide))).mono ?_; rintro e wn ⟨rfl, hSn⟩; clear hq hz hS; have hq := hSn.cell; have hz := hSn.frozen; have hS := Lib.hid hSn; clear hSn)
      | (with_reducible refine (H5.out _ _ (hS.out.put _ _ (by decide))).mono ?_; rintro e wn ⟨rfl, hSn⟩; clear hq hz hS; have hq := hSn.cell; have hz := hSn.frozen; have hS := Lib.hid hSn; clear hSn)
      | (with_reducible refine (H6.out _ _ (hS.out.put _ _ (by decide))).mono ?_; rintro e wn ⟨rfl, hSn⟩; clear hq hz hS; have hq := hSn.cell; have hz := hSn.frozen; have hS := Lib.hid hSn; clear hSn)
      | (with_reducible refine (H7.out _ _ (hS.out.put _ _ (by decide))).mono ?_; rintro e wn ⟨rfl, hSn⟩; clear hq hz hS; have hq := hSn.cell; have hz := hSn.frozen; have hS := Lib.hid hSn; clear hSn)
      | (with_reducible refine (H8.out _ _ (hS.out.put _ _ (by decide))).mono ?_; rintro e wn ⟨rfl, hSn⟩; clear hq hz hS; have hq := hSn.cell; have hz := hSn.frozen; have hS := Lib.hid hSn; clear hSn)
      | (with_reducible refine (H9.out _ _ (hS.out.put _ _ (by decide))).mono ?_; rintro e wn ⟨rfl, hSn⟩; clear hq hz hS; have hq := hSn.cell; have hz := hSn.frozen; have hS := Lib.hid hSn; clear hSn)
      | (with_reducible refine (H10.out _ _ (hS.out.put _ _ (by decide))).mono ?_; rintro e wn ⟨rfl, hSn⟩; clear hq hz hS; have hq := hSn.cell; have hz := hSn.frozen; have hS := Lib.hid hSn; clear hSn)))
  go_end0
  exact ⟨rfl, .slice none 0 0, hS.out.put_as _ _ (by decide) (by simp [newOf]), SlAt.nil _ _⟩
set_option maxHeartbeats 8000000 in
theorem readNewTwap_calls (W w : World) {p mv ma pa : Nat} {ov : Value} {F : FormS} (h2 : algoOf F ≠ 2) (h3 : algoOf F ≠ 3) (h4 : algoOf F ≠ 4) (h : RS W w p mv ma ov F pa (zeroCells 1 (.slice none 0 0))) :
    Calls Tryd.prog 17 #[.pointer (some ⟨p, 0, none⟩), .pointer (some ⟨pa, 0, none⟩)] w (ReadAskPost W p mv ma ov pa (readNew F)) := by
  rw [show readNew F = (newOf F 0 0 [], f9 F) by simp [readNew, h2, h3, h4]]
  have H1 := Lib.hid (show ∀ (w1 : World) cs, RS W w1 p mv ma ov F pa cs → Calls Tryd.prog 33 #[.pointer (some ⟨p, 0, none⟩), .int .i64 11] w1 fun e w' => e = .returned (.string (askN F 11).1) ∧ RS W w' p mv ma ov (f1 F) pa cs from fun w1 cs h => h.name _)
  have H2 := Lib.hid (show ∀ (w1 : World) cs, RS W w1 p mv ma ov (f1 F) pa cs → Calls Tryd.prog 33 #[.pointer (some ⟨p, 0, none⟩), .int .i64 1] w1 fun e w' => e = .returned (.string (askN (f1 F) 1).1) ∧ RS W w' p mv ma ov (f2 F) pa cs from fun w1 cs h => h.name _)
  have H3 := Lib.hid (show ∀ (w1 : World) cs, RS W w1 p mv ma ov (f2 F) pa cs → Calls Tryd.prog 33 #[.pointer (some ⟨p, 0, none⟩), .int .i64 55] w1 fun e w' => e = .returned (.string (askN (f2 F) 55).1) ∧ RS W w' p mv ma ov (f3 F) pa cs from fun w1 cs h => h.name _)
  have H4 := Lib.hid (show ∀ (w1 : World) cs, RS W w1 p mv ma ov (f3 F) pa cs → Calls Tryd.prog 34 #[.pointer (some ⟨p, 0, none⟩), .int .i64 54, .int .i64 1, .int .i64 2] w1 fun e w' => e = .returned (.int .i64 (askI (f3 F) 54 1 2).1) ∧ RS W w' p mv ma ov (f4 F) pa cs from fun w1 cs h => h.int _ _ _)
  have H5 := Lib.hid (show ∀ (w1 : World) cs, RS W w1 p mv ma ov (f4 F) pa cs → Calls Tryd.prog 34 #[.pointer (some ⟨p, 0, none⟩), .int .i64 38, .int .i64 1, .int .i64 1099511627776] w1 fun e w' => e = .returned (.int .i64 (askI (f4 F) 38 1 1099511627776).1) ∧ RS W w' p mv ma ov (f5 F) pa cs from fun w1 cs h => h.int _ _ _)
  have H6 := Lib.hid (show ∀ (w1 : World) cs, RS W w1 p mv ma ov (f5 F) pa cs → Calls Tryd.prog 34 #[.pointer (some ⟨p, 0, none⟩), .int .i64 44, .int .i64 1, .int .i64 1099511627776] w1 fun e w' => e = .returned (.int .i64 (askI (f5 F) 44 1 1099511627776).1) ∧ RS W w' p mv ma ov (f6 F) pa cs from fun w1 cs h => h.int _ _ _)
  have H7 := Lib.hid (show ∀ (w1 : World) cs, RS W w1 p mv ma ov (f6 F) pa cs → Calls Tryd.prog 34 #[.pointer (some ⟨p, 0, none⟩), .int .i64 5001, .int .i64 1, .int .i64 4] w1 fun e w' => e = .returned (.int .i64 (algoOf F)) ∧ RS W w' p mv ma ov (f7 F) pa cs from fun w1 cs h => h.int _ _ _)
  have H8 := Lib.hid (show ∀ (w1 : World) cs, RS W w1 p mv ma ov (f7 F) pa cs → Calls Tryd.prog 34 #[.pointer (some ⟨p, 0, none⟩), .int .i64 5002, .int .i64 0, .int .i64 1099511627776] w1 fun e w' => e = .returned (.int .i64 (askI (f7 F) 5002 0 1099511627776).1) ∧ RS W w' p mv ma ov (f8 F) pa cs from fun w1 cs h => h.int _ _ _)
  have H9 := Lib.hid (show ∀ (w1 : World) cs, RS W w1 p mv ma ov (f8 F) pa cs → Calls Tryd.prog 34 #[.pointer (some ⟨p, 0, none⟩), .int .i64 5003, .int .i64 0, .int .i64 1099511627776] w1 fun e w' => e = .returned (.int .i64 (askI (f8 F) 5003 0 1099511627776).1) ∧ RS W w' p mv ma ov (f9 F) pa cs from fun w1 cs h => h.int _ _ _)
  have b2 : (algoOf F == 2) = false := beq_eq_false_iff_ne.mpr h2
  have b3 : (algoOf F == 3) = false := beq_eq_false_iff_ne.mpr h3
  have b4 : (algoOf F == 4) = false := beq_eq_false_iff_ne.mpr h4
  clear h2 h3 h4
  have hq := h.cell
  have hz := h.frozen
  have hS := Lib.hid h
  clear h
  go_enter Tryd.func17, Tryd.ntmps17
  go_wp2_with (first
    | (go_at_call 33; first
      | (with_reducible refine (H1.out _ _ hS.out).mono ?_; rintro e wn ⟨rfl, hSn⟩; clear hq hz hS; have hq := hSn.cell; have hz := hSn.frozen; have hS := Lib.hid hSn; clear hSn)
      | (with_reducible refine (H2.out _ _ (hS.out.put _ _ (by decide))).mono ?_; rintro e wn ⟨rfl, hSn⟩; clear hq hz hS; have hq := hSn.cell; have hz := hSn.frozen; have hS := Lib.hid hSn; clear hSn)
      | (with_reducible refine (H3.out _ _ (hS.out.put _ _ (by decide))).mono ?_; rintro e wn ⟨rfl, hSn⟩; clear hq hz hS; have hq := hSn.cell; have hz := hSn.frozen; have hS := Lib.hid hSn; clear hSn))
    | (go_at_call 34; first
      | (with_reducible refine (H4.out _ _ (hS.out.put _ _ (by decide))).mono ?_; rintro e wn ⟨rfl, hSn⟩; clear hq hz hS; have hq := hSn.cell; have hz := hSn.frozen; have hS := Lib.hid hSn; clear hSn)
      | (with_reducible refine (H5.out _ _ (hS.out.put _ _ (by decide))).mono ?_; rintro e wn ⟨rfl, hSn⟩; clear hq hz hS; have hq := hSn.cell; have hz := hSn.frozen; have hS := Lib.hid hSn; clear hSn)
      | (with_reducible refine (H6.out _ _ (hS.out.put _ _ (by decide))).mono ?_; rintro e wn ⟨rfl, hSn⟩; clear hq hz hS; have hq := hSn.cell; have hz := hSn.frozen; have hS := Lib.hid hSn; clear hSn)
      | (with_reducible refine (H7.out _ _ (hS.out.put _ _ (by decide))).mono ?_; rintro e wn ⟨rfl, hSn⟩; clear hq hz hS; have hq := hSn.cell; have hz := hSn.frozen; have hS := Lib.hid hSn; clear hSn)
      | (with_reducible refine (H8.out _ _ (hS.out.put _ _ (by decide))).mono ?_; rintro e wn ⟨rfl, hSn⟩; clear hq hz hS; have hq := hSn.cell; have hz := hSn.frozen; have hS := Lib.hid hSn; clear hSn)
      | (with_reducible refine (H9.out _ _ (hS.out.put _ _ (by decide))).mono ?_; rintro e wn ⟨rfl, hSn⟩; clear hq hz hS; have hq := hSn.cell; have hz := hSn.frozen; have hS := Lib.hid hSn; clear hSn)))
  go_end0
  exact ⟨rfl, .slice none 0 0, hS.out.put_as _ _ (by decide) (by simp [newOf]), SlAt.nil _ _⟩
theorem readAsk_calls (W w : World) {p mv ma pa : Nat} {ov : Value} {F : FormS} (k : Int) (h : RS W w p mv ma ov F pa (zeroCells k (.slice none 0 0))) :
    Calls Tryd.prog 17 #[.pointer (some ⟨p, 0, none⟩), .pointer (some ⟨pa, 0, none⟩)] w (ReadAskPost W p mv ma ov pa (readAsk k F)) := by
  unfold readAsk
  split
  · rename_i hk
    subst hk
    by_cases h2 : algoOf F = 2
    · exact readNewVwap_calls W w h2 h
    by_cases h3 : algoOf F = 3
    · exact readNewFlow_calls W w h3 h
    by_cases h4 : algoOf F = 4
    · exact readNewBerg_calls W w h4 h
    exact readNewTwap_calls W w h2 h3 h4 h
  · split
    · rename_i _ hk
      subst hk
      exact readAmend_calls W w h
    · rename_i h1 h3
      exact readPlain_calls W w k h1 h3 h
end Go.Proofs.YtphnfbjbpbfpkaaDoor
