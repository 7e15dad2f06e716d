/- Same, Encode, Decode. -/
import Derived.Test.YtphnfbjbpbfpkaaDoorAskF
import Derived.Test.YtphnfbjbpbfpkaaDoorLaw12
namespace Go.Proofs.YtphnfbjbpbfpkaaDoor
open Go.RowKit
set_option maxRecDepth 100000

section
variable (w : World)
set_option maxHeartbeats 4000000 in
theorem same_calls (a : Ask) (c1 c2 : Value) (h1 : Ints w c1 a.curve) (h2 : Ints w c2 a.curve) (hb : a.curve.length ≤ 70368744177664) : Calls Tryd.prog 10 #[.agg (a.cells c1), .agg (a.cells c2)] w fun e w' => e = .returned (.bool true) ∧ Ext w w' := by
  have HC := Lib.hid (fun (W : World) (hW : Ext w W) => same03_calls W c1 c2 a.curve a.curve (h1.ext hW) (h2.ext hW) hb)
  simp only [decide_true] at HC
  obtain ⟨A, cap, rfl, _⟩ := SlAt.form h1
  obtain ⟨B, cap2, rfl, _⟩ := SlAt.form h2
  clear h1 h2 hb
  go_enter Tryd.func10, Tryd.ntmps10
  go_wp2_with (go_at_call 24; refine (HC.out _ (((Ext.refl w).alloc _).alloc _)).mono ?_; rintro e w1 ⟨rfl, hb1⟩)
  go_ret
  exact ⟨rfl, (((Ext.refl w).alloc _).alloc _).trans hb1⟩
end

/-! ### what is encoded -/
def encS (a : Ask) : ByteArray := if rightB a then formsS (fieldsOf a) else ⟨#[]⟩
def encE (a : Ask) : Int := if rightB a then formsE (fieldsOf a) else 2
set_option maxHeartbeats 4000000 in
theorem encode_calls (w : World) (a : Ask) (c : Value) (hc : Ints w c a.curve) (hg : Glob w) (hi : rightB a = true → a.I64) (hlen : rightB a = true → a.curve.length ≤ 1000) (hs : rightB a = true → ∀ f ∈ fieldsOf a, f.val.size ≤ 70368744177664) :
    Calls Tryd.prog 7 #[.agg (a.cells c)] w fun e w' => e = .returned (.tuple #[.string (encS a), .int .i64 (encE a)]) ∧ Ext w w' := by
  have HR := Lib.hid (fun (W : World) (hW : Ext w W) => right_calls W a c (hc.ext hW))
  cases hr : rightB a
  · rw [hr] at HR
    have H1 := Lib.hid (show encS a = ⟨#[]⟩ by simp [encS, hr])
    have H2 := Lib.hid (show encE a = 2 by simp [encE, hr])
    obtain ⟨A, cap, rfl, _⟩ := SlAt.form hc
    clear hc hi hlen hs hr
    go_enter Tryd.func7, Tryd.ntmps7
    go_wp2_with (go_at_call 9; refine (HR.out _ ((Ext.refl w).alloc _)).mono ?_; rintro e w1 ⟨rfl, hb1⟩)
    go_ret2
    exact ⟨by rw [H1.out, H2.out]; rfl, ((Ext.refl w).alloc _).trans hb1⟩
  · rw [hr] at HR
    have H1 := Lib.hid (show encS a = formsS (fieldsOf a) by simp [encS, hr])
    have H2 := Lib.hid (show encE a = formsE (fieldsOf a) by simp [encE, hr])
    have hi' := hi hr
    have hl' := hlen hr
    have hs' := hs hr
    have HF := Lib.hid (fun (W : World) (hW : Ext w W) => fields_of_calls W a c (hc.ext hW) hl' hi' (hg.ext hW))
    have HO := Lib.hid (fun (W : World) (hW : Ext w W) v (hv : Flds W v (fieldsOf a)) => forms_calls W v (fieldsOf a) hv hs' (hg.ext hW))
    obtain ⟨A, cap, rfl, _⟩ := SlAt.form hc
    clear hc hi hlen hs hr hi' hl' hs'
    go_enter Tryd.func7, Tryd.ntmps7
    go_wp2_with (first
      | (go_at_call 9; refine (HR.out _ ((Ext.refl w).alloc _)).mono ?_; rintro e w1 ⟨rfl, hb1⟩; have hbx := ((Ext.refl w).alloc (.cells (a.cells (.slice A a.curve.length cap)) 24)).trans hb1; obtain ⟨hcc, hff⟩ := hb1.cells)
      | (go_at_call 13; refine (HF.out _ hbx).mono ?_; rintro e w2 ⟨v, rfl, hv, hb2⟩; have HV := Lib.hid hv; clear hv)
      | (go_at_call 12; refine (HO.out _ (hbx.trans hb2) _ HV.out).mono ?_; rintro e w3 ⟨rfl, hb3⟩))
    go_ret2
    exact ⟨by rw [H1.out, H2.out]; rfl, (hbx.trans hb2).trans hb3⟩

/-! ### lists of pairs -/
theorem assoc_put {K α : Type} [DecidableEq K] (v : α) (k k' : K) : ∀ l : List (K × α), assoc (putKV l k v) k' = if k = k' then some v else assoc l k'
  | [] => by simp [putKV, assoc]
  | (a, b) :: r => by
    unfold putKV
    by_cases h : a = k
    · rw [if_pos h]
      subst h
      by_cases h2 : a = k'
      · simp [assoc, h2]
      · simp [assoc, h2]
    · rw [if_neg h]
      simp only [assoc, assoc_put v k k' r]
      by_cases h2 : a = k'
      · rw [if_pos h2, if_pos h2, if_neg (fun e => h (h2.trans e.symm))]
      · rw [if_neg h2, if_neg h2]
def findF (l : List Fld) (t : Int) : Option ByteArray := match l with
  | [] => none
  | x :: r => if x.tag = t then some x.val else findF r t
/-- What Read's loop makes of its fields. -/
structure ReadOk (l : List Fld) (F F' : FormS) : Prop where
  order : F'.order = F.order ++ l.map Fld.tag
  vals : ∀ t, assoc F'.vals t = (findF l t).orElse (fun _ => assoc F.vals t)
  asked : F'.asked = F.asked
  tag : F'.tag = F.tag
  e : F'.e = F.e
theorem readL_ok : ∀ (l : List Fld) (F F' : FormS), readL l F = some F' → ReadOk l F F'
  | [], F, F', h => by
    simp only [readL, Option.some.injEq] at h
    subst h
    exact ⟨by simp, fun t => by simp [findF], rfl, rfl, rfl⟩
  | x :: r, F, F', h => by
    unfold readL at h
    split at h
    · cases h
    · rename_i hn
      have := readL_ok r _ F' h
      refine ⟨by rw [this.order]; simp, fun t => ?_, this.asked, this.tag, this.e⟩
      rw [this.vals, assoc_put]
      simp only [findF]
      by_cases ht : x.tag = t
      · rw [if_pos ht, if_pos ht]
        cases hf : findF r t with
        | none => simp
        | some s =>
          exfalso
          -- the tag stands twice: then readL says none
          exact readL_dup r { F with order := F.order ++ [x.tag], vals := putKV F.vals x.tag x.val } t s hf (by rw [assoc_put, if_pos ht]; rfl) (by rw [h]; rfl)
      · rw [if_neg ht, if_neg ht]
where
  readL_dup : ∀ (r : List Fld) (F : FormS) (t : Int) (s : ByteArray), findF r t = some s → (assoc F.vals t).isSome → (readL r F).isSome → False
  | [], _, _, _, hf, _, _ => by simp [findF] at hf
  | y :: r, F, t, s, hf, ha, hr => by
    unfold readL at hr
    split at hr
    · simp at hr
    · rename_i hn
      simp only [findF] at hf
      by_cases hy : y.tag = t
      · rw [hy] at hn; exact hn ha
      · rw [if_neg hy] at hf
        refine readL_dup r _ t s hf ?_ hr
        show (assoc (putKV F.vals y.tag y.val) t).isSome
        rw [assoc_put, if_neg hy]; exact ha
theorem readR_none {s : ByteArray} (h : (readR s).form = none) : (readR s).e ≠ 0 := by
  unfold readR at h ⊢
  repeat' split
  all_goals first
    | (simp; done)
    | (simp only; assumption)
    | (exfalso; simp_all; done)
theorem readR_some {s : ByteArray} {F : FormS} (h : (readR s).form = some F) : (fieldsR s).2.2 = 0 ∧ (∃ r v, (fieldsR s).1 = ⟨35, v⟩ :: r) ∧ readL (fieldsR s).1 emptyF = some F := by
  unfold readR at h
  split at h
  · rename_i h0
    refine ⟨h0, ?_⟩
    split at h
    · cases h
    · rename_i x r hx
      split at h
      · rename_i h35
        split at h
        · cases h
        · rename_i F' hF
          simp only [Option.some.injEq] at h
          subst h
          obtain ⟨xt, xv⟩ := x
          simp only at h35
          subst h35
          exact ⟨⟨r, xv, hx⟩, by rw [hx]; exact hF⟩
      · cases h
  · cases h
theorem nextR_size (s : ByteArray) : (nextR s).f.val.size ≤ s.size := by
  unfold nextR
  by_cases h1 : (numberR s).2.2 = 0
  · rw [if_pos h1]
    by_cases h2 : (textR (s.extract (numberR s).2.1.toNat s.size)).2 = 0
    · rw [if_pos h2]; exact Nat.le_trans (textS_size _) (size_extract_le _ _ _)
    · rw [if_neg h2]; exact Nat.zero_le _
  · rw [if_neg h1]; exact Nat.zero_le _
theorem fieldsF_vals (s : ByteArray) : ∀ (f a : Nat) (acc : List Fld), (∀ x ∈ acc, x.val.size ≤ s.size) → ∀ x ∈ (fieldsF s f a acc).1, x.val.size ≤ s.size
  | 0, a, acc, h => h
  | f + 1, a, acc, h => by
    have hn := Nat.le_trans (nextR_size (s.extract a s.size)) (size_extract_le s a s.size)
    unfold fieldsF
    generalize nextR (s.extract a s.size) = R at *
    by_cases h1 : a < s.size
    · rw [if_pos h1]
      by_cases h2 : acc.length = 64
      · rw [if_pos h2]; exact h
      · rw [if_neg h2]
        by_cases h3 : R.e = 0
        · rw [if_pos h3]
          refine fieldsF_vals s f _ _ (fun x hx => ?_)
          rw [List.mem_append, List.mem_singleton] at hx
          rcases hx with hx | hx
          · exact h x hx
          · rw [hx]; exact hn
        · rw [if_neg h3]; exact h
    · rw [if_neg h1]; exact h
theorem findF_mem : ∀ (l : List Fld) (t : Int) (v : ByteArray), findF l t = some v → ∃ x ∈ l, x.val = v
  | x :: r, t, v, h => by
    simp only [findF] at h
    split at h
    · exact ⟨x, List.mem_cons_self .., by simpa using h⟩
    · obtain ⟨y, hy, he⟩ := findF_mem r t v h
      exact ⟨y, List.mem_cons_of_mem _ hy, he⟩
theorem readR_vals {s : ByteArray} {F : FormS} (h : (readR s).form = some F) (t : Int) (v : ByteArray) (ha : assoc F.vals t = some v) : v.size ≤ s.size := by
  have hr := (readR_some h).2.2
  have := (readL_ok _ _ _ hr).vals t
  rw [ha] at this
  cases hf : findF (fieldsR s).1 t with
  | none => rw [hf] at this; simp [emptyF, assoc] at this
  | some u =>
    rw [hf] at this
    simp at this
    obtain ⟨x, hx, rfl⟩ := findF_mem _ _ _ hf
    rw [this]
    exact fieldsF_vals s _ _ _ (by simp) x hx
theorem readR_order {s : ByteArray} {F : FormS} (h : (readR s).form = some F) : F.order.length ≤ 64 := by
  rw [(readL_ok _ _ _ (readR_some h).2.2).order]
  simpa [emptyF] using fieldsR_length s
theorem askN_order (F : FormS) (t : Int) : (askN F t).2.order = F.order := by
  unfold askN; repeat' split
  all_goals rfl
theorem askI_order (F : FormS) (t lo hi : Int) : (askI F t lo hi).2.order = F.order := by
  unfold askI; repeat' split
  all_goals rfl
theorem askIs_order (F : FormS) (t most lo hi : Int) : (askIs F t most lo hi).2.order = F.order := by
  unfold askIs; repeat' split
  all_goals rfl
theorem readAsk_order (k : Int) (F : FormS) : (readAsk k F).2.order = F.order := by
  unfold readAsk
  split
  · unfold readNew
    repeat' split
    all_goals simp only [f9, f8, f7, f6, f5, f4, f3, f2, f1, askN_order, askI_order, askIs_order]
  · split
    · simp only [readAmend, g4, g3, g2, f1, askN_order, askI_order]
    · simp only [readPlain, g2, f1, askN_order]
theorem kindF_order (F : FormS) : (kindF F).order = F.order := by unfold kindF; split <;> rfl
theorem kindF_vals (F : FormS) : (kindF F).vals = F.vals := by unfold kindF; split <;> rfl
end Go.Proofs.YtphnfbjbpbfpkaaDoor
