/- PLAIN LAW: decode (encode a) = a of every right a. -/
import Derived.Test.YtphnfbjbpbfpkaaDoorPlainD
namespace Go.Proofs.YtphnfbjbpbfpkaaDoor
open Go.RowKit
set_option maxRecDepth 100000
attribute [local irreducible] Utf8.encode

def pairsOf (l : List Fld) : List (Int × ByteArray) := l.map (fun f => (f.tag, f.val))
theorem putKV_new {K α : Type} [DecidableEq K] (k : K) (v : α) : ∀ l : List (K × α), assoc l k = none → putKV l k v = l ++ [(k, v)]
  | [], _ => rfl
  | (a, b) :: r, h => by
    simp only [assoc] at h
    split at h
    · cases h
    · rename_i hne
      rw [putKV, if_neg hne, putKV_new k v r h]
      rfl
theorem assoc_app_none {K α : Type} [DecidableEq K] (k : K) : ∀ (l m : List (K × α)), assoc l k = none → assoc (l ++ m) k = assoc m k
  | [], m, _ => rfl
  | (a, b) :: r, m, h => by
    simp only [assoc] at h
    split at h
    · cases h
    · rename_i hne
      rw [List.cons_append, assoc, if_neg hne]
      exact assoc_app_none k r m h
theorem readL_nodup : ∀ (l : List Fld) (F : FormS), (l.map Fld.tag).Nodup → (∀ f ∈ l, assoc F.vals f.tag = none) → readL l F = some { F with order := F.order ++ l.map Fld.tag, vals := F.vals ++ pairsOf l }
  | [], F, _, _ => by simp [readL, pairsOf]
  | x :: r, F, hn, h => by
    have hx := h x (List.mem_cons_self ..)
    rw [List.map_cons, List.nodup_cons] at hn
    unfold readL
    rw [if_neg (by rw [hx]; simp), readL_nodup r _ hn.2 (fun f hf => ?_)]
    · simp only [putKV_new _ _ _ hx]
      simp [pairsOf]
    · simp only [putKV_new _ _ _ hx]
      rw [assoc_app_none _ _ _ (h f (List.mem_cons_of_mem _ hf))]
      simp only [assoc]
      rw [if_neg]
      intro e
      exact hn.1 (by rw [e]; exact List.mem_map_of_mem hf)
/-- The form of right fields. -/
def formF (l : List Fld) : FormS := ⟨l.map Fld.tag, pairsOf l, [], 0, 0⟩
theorem readR_forms (l : List Fld) (v : ByteArray) (r : List Fld) (hl : l = ⟨35, v⟩ :: r) (h : ∀ f ∈ l, formE f = 0) (h64 : l.length ≤ 64) (hn : (l.map Fld.tag).Nodup) : (readR (bytesOf (formsL l))).form = some (formF l) := by
  obtain ⟨h1, h2⟩ := fieldsR_forms l h h64
  have hR := readL_nodup l emptyF hn (fun _ _ => rfl)
  unfold readR
  rw [if_pos h2, h1, hl]
  simp only
  rw [if_pos trivial, ← hl, hR]
  simp [formF, emptyF]

/-! ### asking for what is there -/
theorem askN_val {F : FormS} {t : Int} {s : ByteArray} (he : F.e = 0) (ha : assoc F.vals t = some s) (hv : validB s = true) : askN F t = (s, markF F t) := by simp [askN, he, ha, hv]
theorem askI_val {F : FormS} {t n lo hi : Int} (he : F.e = 0) (ha : assoc F.vals t = some (bytesOf (Lib.itoa n))) (h0 : 0 ≤ n) (h1 : n ≤ 9223372036854775807) (hl : lo ≤ n) (hh : n ≤ hi) : askI F t lo hi = (n, markF F t) := by
  have hq := numR_itoa n h0 h1
  have hr : rngE lo hi (some n) = 0 := by
    simp only [rngE]
    rw [if_neg (by omega)]
  simp [askI, he, ha, hq, hr, numN]
theorem askIs_val {F : FormS} {t most lo hi : Int} {l : List Int} (he : F.e = 0) (ha : assoc F.vals t = some (numsText l)) (hne : l ≠ []) (h : ∀ n ∈ l, (0 ≤ n ∧ n ≤ 9223372036854775807) ∧ lo ≤ n ∧ n ≤ hi) (hm : (l.length : Int) ≤ most) : askIs F t most lo hi = (l, markF F t) := by
  obtain ⟨n, r, rfl⟩ : ∃ n r, l = n :: r := by
    cases l with
    | nil => exact absurd rfl hne
    | cons n r => exact ⟨n, r, rfl⟩
  have hq := numsR_text n r (fun m hm => (h m hm).1)
  have hr : intsE most lo hi (some (n :: r)) = 0 := by
    simp only [intsE]
    rw [if_neg (by omega), if_neg]
    intro hb
    rw [List.any_eq_true] at hb
    obtain ⟨m, hm2, hb⟩ := hb
    have := h m hm2
    simp [badIn] at hb
    omega
  simp [askIs, he, ha, hq, hr]
theorem mark_e (F : FormS) (t : Int) : (markF F t).e = F.e := rfl
theorem mark_vals (F : FormS) (t : Int) : (markF F t).vals = F.vals := rfl
theorem mark_order (F : FormS) (t : Int) : (markF F t).order = F.order := rfl
theorem mark_asked (F : FormS) (t u : Int) : (assoc (markF F t).asked u).getD false = (decide (t = u) || (assoc F.asked u).getD false) := by
  unfold markF
  rw [assoc_put]
  by_cases h : t = u <;> simp [h]
theorem doneL_ok {asked : List (Int × Bool)} : ∀ l : List Int, (∀ t ∈ l, (assoc asked t).getD false = true) → doneL asked l = (0, 0)
  | [], _ => rfl
  | t :: r, h => by
    rw [doneL, if_pos (h t (List.mem_cons_self ..))]
    exact doneL_ok r (fun u hu => h u (List.mem_cons_of_mem _ hu))
theorem kindNum_of {k : Int} (h : oneToFive k) : kindNum (kindOfB k) = k := by
  rcases h with rfl | rfl | rfl | rfl | rfl <;> simp [kindNum, kindUpto, kindOfB]
theorem form_word (l : List Fld) (v : ByteArray) (r : List Fld) (hl : l = ⟨35, v⟩ :: r) : wordF (formF l) = v := by
  subst hl
  simp [wordF, formF, pairsOf, assoc]
theorem kindF_form (l : List Fld) : kindF (formF l) = markF (formF l) 35 := rfl

/-- What a walk through all the fields of a right ask comes to. -/
theorem dec_right_of {a : Ask} {F : FormS} (hk : oneToFive a.kind) (hw : wordF F = kindOfB a.kind) {G : FormS} (hr : readAsk a.kind (kindF F) = (a, G)) (he : G.e = 0) (hd : ∀ t ∈ G.order, (assoc G.asked t).getD false = true) (hwh : (wholeR a).2 = 0) : decF F = ⟨a, 0, 0⟩ := by
  have hkn : kindNum (wordF F) = a.kind := by rw [hw, kindNum_of hk]
  have h0 : ¬ a.kind = 0 := by rcases hk with h | h | h | h | h <;> omega
  have hD : doneR G = (0, 0) := by
    unfold doneR
    rw [if_pos he, doneL_ok _ hd]
  unfold decF
  rw [hkn, if_neg h0, hr]
  simp only
  rw [hD]
  simp only
  rw [if_pos trivial, if_pos hwh]
end Go.Proofs.YtphnfbjbpbfpkaaDoor
