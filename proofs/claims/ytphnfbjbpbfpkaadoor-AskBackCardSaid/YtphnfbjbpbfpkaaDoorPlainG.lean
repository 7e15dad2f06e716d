/- PLAIN LAW: what is decoded is right; sizes of what is right. -/
import Derived.Test.YtphnfbjbpbfpkaaDoorPlainF
namespace Go.Proofs.YtphnfbjbpbfpkaaDoor
open Go.RowKit
set_option maxRecDepth 100000
attribute [local irreducible] Utf8.encode

theorem askN_inv {F : FormS} {t : Int} (h : (askN F t).2.e = 0) : F.e = 0 ∧ validB (askN F t).1 = true := by
  unfold askN at h ⊢
  by_cases he : F.e = 0
  · rw [if_pos he] at h ⊢
    cases ha : assoc F.vals t with
    | none => rw [ha] at h; simp [failF] at h
    | some s =>
      rw [ha] at h
      simp only at h ⊢
      cases hv : validB s
      · rw [hv] at h; simp [failF] at h
      · exact ⟨he, by simp [hv]⟩
  · rw [if_neg he] at h
    exact absurd h he
theorem askI_inv {F : FormS} {t lo hi : Int} (h : (askI F t lo hi).2.e = 0) : F.e = 0 ∧ lo ≤ (askI F t lo hi).1 ∧ (askI F t lo hi).1 ≤ hi := by
  unfold askI at h ⊢
  by_cases he : F.e = 0
  · rw [if_pos he] at h ⊢
    cases ha : assoc F.vals t with
    | none => rw [ha] at h; simp [failF] at h
    | some s =>
      rw [ha] at h
      simp only at h ⊢
      by_cases hr : rngE lo hi (numR s) = 0
      · rw [if_pos hr]
        refine ⟨he, ?_⟩
        cases hn : numR s with
        | none => rw [hn] at hr; simp [rngE] at hr
        | some n =>
          rw [hn] at hr
          simp only [rngE] at hr
          split at hr
          · cases hr
          · simp only [numN, Option.getD_some]; omega
      · rw [if_neg hr] at h
        exact absurd h hr
  · rw [if_neg he] at h
    exact absurd h he
theorem askIs_inv {F : FormS} {t most lo hi : Int} (h : (askIs F t most lo hi).2.e = 0) : F.e = 0 := by
  unfold askIs at h
  by_cases he : F.e = 0
  · exact he
  · rw [if_neg he] at h
    exact absurd h he
theorem kindNum_five {w : ByteArray} (h : kindNum w ≠ 0) : oneToFive (kindNum w) := by
  unfold kindNum at *
  simp only [kindUpto] at *
  unfold oneToFive
  repeat' split
  all_goals simp_all
theorem spanB_any {a b : Int} (h : spanB a b = true) : spanB a b = true := h
theorem whole_inv {a : Ask} (hk : a.kind = 1) (h : (wholeR a).2 = 0) : spanB a.start a.fin = true ∧ (a.algo = 2 → curveOk a.curve = true) := by
  unfold wholeR at h
  rw [if_pos hk] at h
  split at h
  · rename_i hs
    refine ⟨hs, fun h2 => ?_⟩
    split at h
    · cases h
    · rename_i hn
      cases hc : curveOk a.curve
      · exact absurd ⟨h2, hc⟩ hn
      · rfl
  · cases h
theorem emptyB_nil : emptyB ⟨#[]⟩ = true := by simp [emptyB, ByteArray.toList_eq]
theorem new_right {F : FormS} {r s : Int} {c : List Int} (h9 : (f9 F).e = 0) (hsp : spanB (newOf F r s c).start (newOf F r s c).fin = true) (hal : algoB (newOf F r s c) = true) : rightB (newOf F r s c) = true := by
  obtain ⟨e8, v9⟩ := askI_inv (F := f8 F) h9
  obtain ⟨e7, v8⟩ := askI_inv (F := f7 F) e8
  obtain ⟨e6, v7⟩ := askI_inv (F := f6 F) e7
  obtain ⟨e5, v6⟩ := askI_inv (F := f5 F) e6
  obtain ⟨e4, v5⟩ := askI_inv (F := f4 F) e5
  obtain ⟨e3, v4⟩ := askI_inv (F := f3 F) e4
  obtain ⟨e2, v3⟩ := askN_inv (F := f2 F) e3
  obtain ⟨e1, v2⟩ := askN_inv (F := f1 F) e2
  obtain ⟨e0, v1⟩ := askN_inv (F := F) e1
  have hf : freshB (newOf F r s c) = true := by
    unfold freshB
    rw [hsp, hal]
    simp only [newOf, worthB, Bool.and_eq_true, within_iff, v2, v3, emptyB_nil]
    exact ⟨trivial, trivial, trivial, v4, ⟨v5, v6, v9⟩, v8, trivial, trivial⟩
  unfold rightB
  rw [if_pos (.inl rfl), hf]
  show (validB (newOf F r s c).id && _) = true
  rw [show (newOf F r s c).id = (askN F 11).1 from rfl, v1]
  rfl
theorem read_right {k : Int} {F : FormS} {a : Ask} {G : FormS} (hk : oneToFive k) (hr : readAsk k F = (a, G)) (he : G.e = 0) (hw : (wholeR a).2 = 0) : rightB a = true := by
  unfold readAsk at hr
  split at hr
  · unfold readNew at hr
    split at hr
    · rename_i h2
      injection hr with ha hG
      subst ha hG
      obtain ⟨hs, hc⟩ := whole_inv rfl hw
      have h9 := askIs_inv he
      refine new_right h9 hs ?_
      have := hc h2
      unfold algoB
      rw [if_neg (show ¬ (newOf F 0 0 _).algo = 1 by show ¬ algoOf F = 1; omega), if_pos (show (newOf F 0 0 _).algo = 2 from h2), this]
      rfl
    split at hr
    · rename_i _ h3
      injection hr with ha hG
      subst ha hG
      obtain ⟨hs, hc⟩ := whole_inv rfl hw
      obtain ⟨h9, hv⟩ := askI_inv he
      refine new_right h9 hs ?_
      unfold algoB
      rw [if_neg (show ¬ (newOf F _ 0 []).algo = 1 by show ¬ algoOf F = 1; omega), if_neg (show ¬ (newOf F _ 0 []).algo = 2 by show ¬ algoOf F = 2; omega), if_pos (show (newOf F _ 0 []).algo = 3 from h3)]
      simp only [newOf, Bool.and_eq_true, within_iff]
      exact ⟨rfl, hv, rfl⟩
    split at hr
    · rename_i _ _ h4
      injection hr with ha hG
      subst ha hG
      obtain ⟨hs, hc⟩ := whole_inv rfl hw
      obtain ⟨h9, hv⟩ := askI_inv he
      refine new_right h9 hs ?_
      unfold algoB
      rw [if_neg (show ¬ (newOf F 0 _ []).algo = 1 by show ¬ algoOf F = 1; omega), if_neg (show ¬ (newOf F 0 _ []).algo = 2 by show ¬ algoOf F = 2; omega), if_neg (show ¬ (newOf F 0 _ []).algo = 3 by show ¬ algoOf F = 3; omega), if_pos (show (newOf F 0 _ []).algo = 4 from h4)]
      simp only [newOf, Bool.and_eq_true, within_iff]
      exact ⟨rfl, rfl, hv⟩
    · rename_i h2 h3 h4
      injection hr with ha hG
      subst ha hG
      obtain ⟨hs, hc⟩ := whole_inv rfl hw
      have h9 : (f9 F).e = 0 := he
      have e8 := (askI_inv (F := f8 F) h9).1
      have e7 := (askI_inv (F := f7 F) e8).1
      have v7 : 1 ≤ algoOf F ∧ algoOf F ≤ 4 := (askI_inv (F := f6 F) e7).2
      refine new_right h9 hs ?_
      unfold algoB
      rw [if_pos (show (newOf F 0 0 []).algo = 1 by show algoOf F = 1; omega)]
      rfl
  · rename_i hk1
    split at hr
    · rename_i hk3
      unfold readAmend at hr
      injection hr with ha hG
      subst ha hG
      obtain ⟨e4, v5⟩ := askI_inv (F := g4 F) he
      obtain ⟨e3, v4⟩ := askI_inv (F := g3 F) e4
      obtain ⟨e2, v3⟩ := askI_inv (F := g2 F) e3
      obtain ⟨e1, v2⟩ := askN_inv (F := f1 F) e2
      obtain ⟨e0, v1⟩ := askN_inv (F := F) e1
      unfold rightB
      rw [if_pos (by simp)]
      simp only [v1, v2, bareB, emptyB_nil, worthB, Bool.true_and, Bool.and_eq_true, within_iff]
      simp [v3, v4, v5, withinB]
    · rename_i hk3
      unfold readPlain at hr
      injection hr with ha hG
      subst ha hG
      obtain ⟨e1, v2⟩ := askN_inv (F := f1 F) he
      obtain ⟨e0, v1⟩ := askN_inv (F := F) e1
      unfold rightB
      have hk' : k = 1 ∨ k = 2 ∨ k = 3 ∨ k = 4 ∨ k = 5 := hk
      simp only
      rw [if_pos hk']
      simp [v1, v2, bareB, emptyB_nil, hk1, hk3]
theorem dec_ok {s : ByteArray} (h : (decR s).e = 0) : rightB (decR s).ask = true := by
  unfold decR at *
  cases hf : (readR s).form with
  | none => rw [hf] at h; exact absurd h (readR_none hf)
  | some F =>
    rw [hf] at h
    simp only at h ⊢
    unfold decF at *
    rcases hr : readAsk (kindNum (wordF F)) (kindF F) with ⟨a, G⟩
    rw [hr] at h
    simp only at h ⊢
    by_cases h0 : kindNum (wordF F) = 0
    · rw [if_pos h0] at h; simp at h
    · rw [if_neg h0] at h ⊢
      by_cases h1 : (doneR G).2 = 0
      · rw [if_pos h1] at h ⊢
        by_cases h2 : (wholeR a).2 = 0
        · rw [if_pos h2]
          refine read_right (kindNum_five h0) hr ?_ h2
          unfold doneR at h1
          split at h1
          · assumption
          · rename_i hne; exact absurd h1 hne
        · rw [if_neg h2] at h; exact absurd h h2
      · rw [if_neg h1] at h; exact absurd h h1
theorem dec_bad {s : ByteArray} (h : (decR s).e ≠ 0) : (decR s).ask = zeroAsk 0 := by
  unfold decR at *
  cases hf : (readR s).form with
  | none => rfl
  | some F =>
    rw [hf] at h
    simp only at h ⊢
    unfold decF at *
    split
    · rfl
    · rename_i h0
      rw [if_neg h0] at h
      split
      · rename_i h1
        rw [if_pos h1] at h
        split
        · rename_i h2
          rw [if_pos h2] at h
          exact absurd rfl h
        · rfl
      · rfl

/-! ### sizes -/
theorem right_I64 {a : Ask} (h : rightB a = true) : a.I64 := by
  obtain ⟨hk, hid, hc⟩ := rightB_eq h
  have z : I64 0 := by unfold I64; omega
  rcases hc with ⟨k1, hn⟩ | ⟨k3, ht, hb, hq, hp, hf⟩ | ⟨k1, k3, ht, hb, hq, hp, hf⟩
  · obtain ⟨hq, hp, hf⟩ := hn.worth
    have hsd := hn.side
    have hst := hn.start
    rcases algoB_eq hn.algo with ⟨e, hcv, hr, hs⟩ | ⟨e, hcv, hr, hs⟩ | ⟨e, hcv, hr, hs⟩ | ⟨e, hcv, hr, hs⟩
    · refine ⟨?_, ?_, ?_, ?_, ?_, ?_, ?_, ?_, by rw [hcv]; simp⟩ <;> unfold I64 <;> omega
    · refine ⟨?_, ?_, ?_, ?_, ?_, ?_, ?_, ?_, fun n hm => ?_⟩
      case refine_9 => have := (curveOk_eq hcv).2.2 n hm; unfold I64; omega
      all_goals (unfold I64; omega)
    · refine ⟨?_, ?_, ?_, ?_, ?_, ?_, ?_, ?_, by rw [hcv]; simp⟩ <;> unfold I64 <;> omega
    · refine ⟨?_, ?_, ?_, ?_, ?_, ?_, ?_, ?_, by rw [hcv]; simp⟩ <;> unfold I64 <;> omega
  · refine ⟨by rw [hb.side]; exact z, ?_, ?_, by rw [hb.algo]; exact z, by rw [hb.start]; exact z, ?_, by rw [hb.rate]; exact z, by rw [hb.shown]; exact z, by rw [hb.curve]; simp⟩ <;> unfold I64 <;> omega
  · exact ⟨by rw [hb.side]; exact z, by rw [hq]; exact z, by rw [hp]; exact z, by rw [hb.algo]; exact z, by rw [hb.start]; exact z, by rw [hf]; exact z, by rw [hb.rate]; exact z, by rw [hb.shown]; exact z, by rw [hb.curve]; simp⟩
theorem right_curve {a : Ask} (h : rightB a = true) : a.curve.length ≤ 64 := by
  obtain ⟨hk, hid, hc⟩ := rightB_eq h
  rcases hc with ⟨k1, hn⟩ | ⟨k3, ht, hb, hq, hp, hf⟩ | ⟨k1, k3, ht, hb, hq, hp, hf⟩
  · rcases algoB_eq hn.algo with ⟨e, hcv, hr, hs⟩ | ⟨e, hcv, hr, hs⟩ | ⟨e, hcv, hr, hs⟩ | ⟨e, hcv, hr, hs⟩
    · rw [hcv]; simp
    · exact (curveOk_eq hcv).2.1
    · rw [hcv]; simp
    · rw [hcv]; simp
  · rw [hb.curve]; simp
  · rw [hb.curve]; simp
theorem right_vals {a : Ask} (h : rightB a = true) : ∀ f ∈ fieldsOf a, f.val.size ≤ 70368744177664 := by
  intro f hf
  have := (formE_ok (right_forms h f hf)).2.2
  simp only [valueB, Bool.and_eq_true, decide_eq_true_eq] at this
  omega
theorem formsL_size : ∀ l : List Fld, (∀ f ∈ l, formE f = 0) → (formsL l).length ≤ l.length * 535
  | [], _ => by simp [formsL]
  | f :: r, h => by
    have e1 : formsL (f :: r) = formOf f ++ formsL r := by simp [formsL]
    have h1 := formOf_size (h f (List.mem_cons_self ..))
    have h2 := formsL_size r (fun g hg => h g (List.mem_cons_of_mem _ hg))
    rw [e1, List.length_append, List.length_cons]
    omega
theorem encS_size (a : Ask) : (encS a).size ≤ 34240 := by
  unfold encS
  split
  · rename_i h
    have h1 := (right_encE h).2
    have h2 : encS a = formsS (fieldsOf a) := by unfold encS; rw [if_pos h]
    rw [← h2, h1, bytesOf_size]
    have := formsL_size _ (right_forms h)
    have := fieldsOf_length a
    omega
  · exact Nat.zero_le _
end Go.Proofs.YtphnfbjbpbfpkaaDoor
