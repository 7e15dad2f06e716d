/- Maps whose keys are ints or texts, said as lists of pairs in the order in which the keys came in: lookups and stores. -/
import Derived.Test.YtphnfbjbpbfpkaaDoorBase
namespace Go.Proofs.YtphnfbjbpbfpkaaDoor
open Go.RowKit

/-- How a kind of keys lies in memory. -/
structure KeyOk (K : Type) [DecidableEq K] (kenc : K → Value) (d : TypeDesc) : Prop where
  same : ∀ a b, Instr.sameNow d (kenc a) (kenc b) = some (decide (a = b))
  bits : ∀ n a, Instr.sameBits n (kenc a) (kenc a) = true
  plain : (∀ ms, d ≠ .interface ms) ∧ (∀ n e, d ≠ .array n e) ∧ (∀ fs, d ≠ .struct fs)
theorem ba_beq (a b : ByteArray) : (a == b) = decide (a = b) := by
  obtain ⟨a⟩ := a
  obtain ⟨b⟩ := b
  show (a == b) = _
  rw [Bool.eq_iff_iff]
  simp
theorem key_int : KeyOk Int (Value.int .i64) (.int .i64) where
  same a b := by
    simp only [Instr.sameNow, if_true, Option.some.injEq]
    rw [Bool.eq_iff_iff]
    simp
  bits n a := by cases n <;> simp [Instr.sameBits]
  plain := ⟨(fun _ h => by cases h), (fun _ _ h => by cases h), (fun _ h => by cases h)⟩
theorem key_str : KeyOk ByteArray Value.string .string where
  same a b := by simp [Instr.sameNow, ba_beq]
  bits n a := by cases n <;> simp [Instr.sameBits, ba_beq]
  plain := ⟨(fun _ h => by cases h), (fun _ _ h => by cases h), (fun _ h => by cases h)⟩

section
variable {K α : Type} {kenc : K → Value} {enc : α → Value} {P : Program} {w : World}

def assoc [DecidableEq K] (l : List (K × α)) (k : K) : Option α :=
  match l with
  | [] => none
  | (k', v) :: r => if k' = k then some v else assoc r k
def putKV [DecidableEq K] (l : List (K × α)) (k : K) (v : α) : List (K × α) :=
  match l with
  | [] => [(k, v)]
  | (k', v') :: r => if k' = k then (k, v) :: r else (k', v') :: putKV r k v

/-- Block b is a map that holds these pairs. -/
def MapIs (w : World) (b : Nat) (kenc : K → Value) (enc : α → Value) (l : List (K × α)) : Prop :=
  ∃ es clock, w.heap[b]? = some (.map es clock) ∧ es.toList.map (fun e => (e.key, e.val)) = l.map (fun p => (kenc p.1, enc p.2))
theorem MapIs.lt {b : Nat} {l : List (K × α)} (h : MapIs w b kenc enc l) : b < w.heap.size := by obtain ⟨es, c, h, _⟩ := h; exact heap_lt h
theorem MapIs.keep {w' : World} {b : Nat} {l : List (K × α)} (h : MapIs w b kenc enc l) (hk : w'.heap[b]? = w.heap[b]?) : MapIs w' b kenc enc l := by
  obtain ⟨es, c, h, hl⟩ := h
  exact ⟨es, c, hk.trans h, hl⟩
theorem MapIs.ext {w' : World} {b : Nat} {l : List (K × α)} (h : MapIs w b kenc enc l) (he : Ext w w') : MapIs w' b kenc enc l := h.keep (Below.block he b h.lt)
theorem MapIs.new (w : World) (kenc : K → Value) (enc : α → Value) : MapIs (w.alloc (.map #[] 0)) w.heap.size kenc enc [] := ⟨#[], 0, heap_alloc_at w _, rfl⟩

theorem findNow_spec [DecidableEq K] {d : TypeDesc} (hk : KeyOk K kenc d) (k : K) : ∀ (es : List MapEntry) (l : List (K × α)) (i : Nat), es.map (fun e => (e.key, e.val)) = l.map (fun p => (kenc p.1, enc p.2)) →
    (assoc l k = none → Instr.findNow d (kenc k) es i = some none) ∧
    (∀ v, assoc l k = some v → ∃ j, Instr.findNow d (kenc k) es i = some (some (i + j, enc v)) ∧ j < es.length ∧ (es[j]?).map (·.key) = some (kenc k) ∧
      ∀ u, ((putKV l k u).map fun p => (kenc p.1, enc p.2)) = (es.modify j fun e => { e with key := kenc k, val := enc u }).map (fun e => (e.key, e.val)))
  | [], [], i, _ => ⟨fun _ => rfl, fun v h => by simp [assoc] at h⟩
  | [], _ :: _, i, h => by simp at h
  | _ :: _, [], i, h => by simp at h
  | e :: es, (k', v') :: l, i, h => by
    simp only [List.map_cons, List.cons.injEq, Prod.mk.injEq] at h
    obtain ⟨⟨h1, h2⟩, h3⟩ := h
    obtain ⟨ih1, ih2⟩ := findNow_spec hk k es l (i + 1) h3
    by_cases hkk : k' = k
    · subst hkk
      refine ⟨fun h => by simp [assoc] at h, fun v hv => ⟨0, ?_, by simp, by simp [h1], fun u => ?_⟩⟩
      · simp only [assoc, if_true] at hv
        obtain rfl := Option.some.inj hv
        simp [Instr.findNow, h1, hk.same, h2]
      · simp [putKV, h3]
    · have hne : ¬ k = k' := fun e => hkk e.symm
      have hs : Instr.sameNow d (kenc k) e.key = some false := by rw [h1, hk.same]; simp [hne]
      refine ⟨fun ha => ?_, fun v hv => ?_⟩
      · simp only [assoc, if_neg hkk] at ha
        simp [Instr.findNow, hs, ih1 ha]
      · simp only [assoc, if_neg hkk] at hv
        obtain ⟨j, a1, a2, a3, a4⟩ := ih2 v hv
        refine ⟨j + 1, ?_, by simp; omega, by simpa using a3, fun u => ?_⟩
        · simp [Instr.findNow, hs, a1]; omega
        · simp only [putKV, if_neg hkk, List.map_cons, a4 u]
          simp [h1, h2]

theorem checkKey_run [DecidableEq K] {d : TypeDesc} (hk : KeyOk K kenc d) {kt : TypeId} (ht : P.underlying kt = some d) (e : Bool) (n : Nat) (v : Value) (w : World) : (Instr.checkKey e (n + 1) kt v).run P w = .ok () w := by
  obtain ⟨h1, h2, h3⟩ := hk.plain
  unfold Instr.checkKey
  simp only [Sem.run_bind, run_underlying ht, Result.andThen]
  split <;> first | rfl | (exfalso; first | exact h1 _ rfl | exact h2 _ _ rfl | exact h3 _ rfl)

theorem lookup_run [DecidableEq K] {d : TypeDesc} (hk : KeyOk K kenc d) {t kt et : TypeId} (ht : P.underlying t = some (.map kt et)) (hkt : P.underlying kt = some d) {z : Value} (hz : ∀ w, (zeroValue et).run P w = .ok z w)
    {b : Nat} {l : List (K × α)} (h : MapIs w b kenc enc l) (k : K) (ok : Bool) :
    (Instr.lookup t (.map (some b)) (kenc k) ok).run P w = .ok (if ok then .tuple #[((assoc l k).map enc).getD z, .bool (assoc l k).isSome] else ((assoc l k).map enc).getD z) w := by
  obtain ⟨es, c, hb, hl⟩ := h
  obtain ⟨f1, f2⟩ := findNow_spec hk k es.toList l 0 hl
  unfold Instr.lookup
  cases ha : assoc l k with
  | none =>
    simp [Sem.run_bind, run_underlying ht, Result.andThen, getObj, Sem.run, hb, checkKey_run hk hkt, Instr.findKey, run_underlying hkt, f1 ha, hz]
  | some v =>
    obtain ⟨j, a1, _⟩ := f2 v ha
    simp [Sem.run_bind, run_underlying ht, Result.andThen, getObj, Sem.run, hb, checkKey_run hk hkt, Instr.findKey, run_underlying hkt, a1]

theorem update_run [DecidableEq K] {d : TypeDesc} (hk : KeyOk K kenc d) {t kt et : TypeId} (ht : P.underlying t = some (.map kt et)) (hkt : P.underlying kt = some d)
    {b : Nat} {l : List (K × α)} (h : MapIs w b kenc enc l) (k : K) (v : α) :
    ∃ w', (Instr.mapUpdate t (.map (some b)) (kenc k) (enc v)).run P w = .ok () w' ∧ MapIs w' b kenc enc (putKV l k v) ∧ Keeps [b] w w' ∧ w'.heap.size = w.heap.size := by
  obtain ⟨es, c, hb, hl⟩ := h
  have hlt := heap_lt hb
  obtain ⟨f1, f2⟩ := findNow_spec hk k es.toList l 0 hl
  have hset : ∀ o, Keeps [b] w { w with heap := w.heap.setIfInBounds b o } := fun o => ⟨rfl, rfl, rfl, by simp, fun i hi hd => by
    simp only [List.mem_singleton] at hd
    simp [Array.getElem?_setIfInBounds, Ne.symm hd]⟩
  cases ha : assoc l k with
  | none =>
    refine ⟨{ w with heap := w.heap.setIfInBounds b (.map (es.push { key := kenc k, val := enc v, born := c }) (c + 1)) }, ?_, ⟨es.push { key := kenc k, val := enc v, born := c }, c + 1, by simp [hlt], ?_⟩, hset _, by simp⟩
    · unfold Instr.mapUpdate
      simp [Sem.run_bind, run_underlying ht, Result.andThen, getObj, setObj, Sem.run, hb, checkKey_run hk hkt, Instr.findKey, run_underlying hkt, f1 ha]
    · have : ∀ l : List (K × α), assoc l k = none → putKV l k v = l ++ [(k, v)] := by
        intro l
        induction l with
        | nil => intro _; rfl
        | cons p r ih =>
          obtain ⟨k', v'⟩ := p
          intro h
          by_cases hkk : k' = k
          · simp [assoc, hkk] at h
          · simp only [assoc, if_neg hkk] at h
            simp [putKV, hkk, ih h]
      rw [this l ha]
      simp [hl]
  | some u =>
    obtain ⟨j, a1, a2, a3, a4⟩ := f2 u ha
    refine ⟨{ w with heap := w.heap.setIfInBounds b (.map (es.modify j fun e => { e with key := kenc k, val := enc v }) c) }, ?_, ⟨es.modify j fun e => { e with key := kenc k, val := enc v }, c, by simp [hlt], ?_⟩, hset _, by simp⟩
    · have hkey : (es[j]?).map (·.key) = some (kenc k) := by simpa using a3
      have a1' : Instr.findNow d (kenc k) es.toList 0 = some (some (j, enc u)) := by simpa using a1
      unfold Instr.mapUpdate
      simp [Sem.run_bind, run_underlying ht, Result.andThen, getObj, setObj, Sem.run, hb, checkKey_run hk hkt, Instr.findKey, run_underlying hkt, a1', hkey, Instr.keyThatStays, hk.bits]
    · rw [a4 v]
      simp
end
end Go.Proofs.YtphnfbjbpbfpkaaDoor
