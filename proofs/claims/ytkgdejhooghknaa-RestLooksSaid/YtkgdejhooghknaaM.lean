/- The memory of what is found: a map whose keys are states. -/
import Derived.Test.YtkgdejhooghknaaA
import Derived.RangeFuncRecord
namespace Go.Proofs.Ytkgdejhooghknaa
open Go.RowKit Go.Lap

theorem part3 (xs : Array Value) (i : Nat) (v : Value) (h : xs[i]? = some v) (w : World) : (part 3 xs i).run Try.prog w = .ok v w := by
  unfold part
  simp [h, go_sem]

theorem eq_array (d : Nat) (a b a' b' : Int) (w : World) : (Op.equalIn (d + 2) 69 (.agg #[.int .i64 a, .int .i64 b]) (.agg #[.int .i64 a', .int .i64 b'])).run Try.prog w =
    .ok (a == a' && b == b') w := by
  rw [Op.equalIn]
  simp [Sem.run_bind, run_underlying (show Try.prog.underlying 69 = some (.array 2 3) by kernel_rfl), List.range', go_sem]
  by_cases h1 : a = a' <;> by_cases h2 : b = b' <;> simp [h1, h2]

theorem eq_state (s t : St) (w : World) : (Op.equal 71 (sval s) (sval t)).run Try.prog w = .ok (decide (s = t)) w := by
  show (Op.equalIn (9996 + 4) 71 (sval s) (sval t)).run Try.prog w = _
  rw [run_equalIn_agg _ _ _ _ _ (by kernel_rfl) (by kernel_rfl)]
  have h := fun a b a' b' => eq_array 9997 a b a' b' w
  go_simp
  obtain ⟨a1, a2, a3, a4, a5, a6⟩ := s
  obtain ⟨b1, b2, b3, b4, b5, b6⟩ := t
  simp only [St.mk.injEq]
  by_cases h1 : a1 = b1
  · by_cases h2 : a2 = b2
    · by_cases h3 : a3 = b3
      · by_cases h4 : a4 = b4
        · by_cases h5 : a5 = b5
          · by_cases h6 : a6 = b6 <;> simp [h1, h2, h3, h4, h5, h6]
          · simp [h5]
        · simp [h4]
      · simp [h3]
    · simp [h2]
  · simp [h1]

theorem check_key (e : Bool) (a b c d f g : Int) (w : World) : (Instr.checkKey e 10000 71 (.agg #[.int .i64 a, .int .i64 b, .int .i64 c, .int .i64 d, .int .i64 f, .int .i64 g])).run Try.prog w = .ok () w := by kernel_rfl

theorem sval_inj {s t : St} (h : sval s = sval t) : s = t := by
  simp only [sval, Value.agg.injEq, Array.mk.injEq, List.cons.injEq, Value.int.injEq, true_and, and_true] at h
  exact St.ext h.1 h.2.1 h.2.2.1 h.2.2.2.1 h.2.2.2.2.1 h.2.2.2.2.2

/-- What a search for a key comes to. -/
def Found (s : St) (es : List MapEntry) (i0 : Nat) : Option (Nat × Value) → Prop
  | none => ∀ e, e ∈ es → e.key ≠ sval s
  | some (i, v) => ∃ k e, i = i0 + k ∧ es[k]? = some e ∧ e.key = sval s ∧ v = e.val

theorem find_asking (s : St) (w : World) : ∀ (es : List MapEntry) (i : Nat), (∀ e, e ∈ es → ∃ t : St, e.key = sval t) →
    ∃ r, (Instr.findAsking 71 (sval s) es i).run Try.prog w = .ok r w ∧ Found s es i r
  | [], i, _ => ⟨none, rfl, fun _ h => by cases h⟩
  | e :: es, i, h => by
    obtain ⟨t, ht⟩ := h e (by simp)
    by_cases hst : s = t
    · refine ⟨some (i, e.val), ?_, 0, e, rfl, rfl, by rw [ht, hst], rfl⟩
      rw [Instr.findAsking, ht]
      simp [Sem.run_bind, eq_state, hst]
    · obtain ⟨r, hr, hf⟩ := find_asking s w es (i + 1) (fun e' he' => h e' (by simp [he']))
      refine ⟨r, ?_, ?_⟩
      · rw [Instr.findAsking, ht]
        simp [Sem.run_bind, eq_state, hst, hr]
      · cases r with
        | none =>
          intro e' he'
          rcases List.mem_cons.1 he' with rfl | he'
          · rw [ht]; exact fun h => hst (sval_inj h).symm
          · exact hf e' he'
        | some p =>
          obtain ⟨j, v⟩ := p
          obtain ⟨k, e', rfl, he', hk, hv⟩ := hf
          exact ⟨k + 1, e', by omega, by simpa using he', hk, hv⟩

theorem find_key (s : St) (w : World) (es : List MapEntry) (h : ∀ e, e ∈ es → ∃ t : St, e.key = sval t) :
    ∃ r, (Instr.findKey 71 (sval s) es).run Try.prog w = .ok r w ∧ Found s es 0 r := by
  have hu : Try.prog.underlying 71 = some (.struct (Try.prog.fieldsOf 71)) := by kernel_rfl
  unfold Instr.findKey
  rw [Sem.run_bind, run_underlying hu]
  simp only [Result.andThen_ok]
  cases es with
  | nil => exact ⟨none, rfl, fun _ h => by cases h⟩
  | cons e es => exact find_asking s w (e :: es) 0 h

/-- A map's entries tell of each state that they have what 'kv' tells of it. -/
def Memo (kv : St → Value) (es : Array MapEntry) : Prop := ∀ e, e ∈ es.toList → ∃ t : St, e.key = sval t ∧ e.val = kv t

theorem memo_empty (kv : St → Value) : Memo kv #[] := fun e h => by simp at h

theorem lookup_memo {T E : TypeId} (hu : Try.prog.underlying T = some (.map 71 E)) {z : Value} (hz : ∀ w, (zeroValue E).run Try.prog w = .ok z w) {kv : St → Value} {w : World} {m : Nat} {es : Array MapEntry} {c : Nat}
    (hm : w.heap[m]? = some (.map es c)) (hes : Memo kv es) (s : St) :
    ∃ (ok : Bool) (v : Value), (Instr.lookup T (.map (some m)) (sval s) true).run Try.prog w = .ok (.tuple #[v, .bool ok]) w ∧ (ok = true ∧ v = kv s ∨ ok = false ∧ v = z) := by
  obtain ⟨r, hr, hf⟩ := find_key s w es.toList (fun e he => let ⟨t, h, _⟩ := hes e he; ⟨t, h⟩)
  have hg : (getObj m).run Try.prog w = .ok (.map es c) w := by simp [getObj, Sem.run, hm]
  have hk := check_key es.isEmpty s.rider s.run s.before s.hour s.h0 s.h1 w
  cases r with
  | none =>
    refine ⟨false, z, ?_, .inr ⟨rfl, rfl⟩⟩
    simp [Instr.lookup, Sem.run_bind, run_underlying hu, hg, hk, hr, hz]
  | some p =>
    obtain ⟨i, v⟩ := p
    obtain ⟨k, e, rfl, he, hkey, hv⟩ := hf
    refine ⟨true, v, ?_, .inl ⟨rfl, ?_⟩⟩
    · simp [Instr.lookup, Sem.run_bind, run_underlying hu, hg, hk, hr]
    · obtain ⟨t, ht, hval⟩ := hes e (List.mem_of_getElem? he)
      rw [hkey] at ht
      rw [hv, hval, sval_inj ht]

theorem same_bits (s : St) : Instr.sameBits 10000 (sval s) (sval s) = true := by
  show Instr.sameBits (9999 + 1) (sval s) (sval s) = true
  simp [Instr.sameBits]

theorem update_memo {T E : TypeId} (hu : Try.prog.underlying T = some (.map 71 E)) {kv : St → Value} {w : World} {m : Nat} {es : Array MapEntry} {c : Nat}
    (hm : w.heap[m]? = some (.map es c)) (hes : Memo kv es) (s : St) :
    ∃ es' c', (Instr.mapUpdate T (.map (some m)) (sval s) (kv s)).run Try.prog w = .ok () (w.putObj m (.map es' c')) ∧ Memo kv es' := by
  obtain ⟨r, hr, hf⟩ := find_key s w es.toList (fun e he => let ⟨t, h, _⟩ := hes e he; ⟨t, h⟩)
  have hg : (getObj m).run Try.prog w = .ok (.map es c) w := by simp [getObj, Sem.run, hm]
  have hk := check_key false s.rider s.run s.before s.hour s.h0 s.h1 w
  have hset : ∀ o, (setObj m o).run Try.prog w = .ok () (w.putObj m o) := fun o => by
    simp [setObj, Sem.run, hm, World.putObj]
  cases r with
  | none =>
    refine ⟨es.push { key := sval s, val := kv s, born := c }, c + 1, ?_, ?_⟩
    · simp [Instr.mapUpdate, Sem.run_bind, run_underlying hu, hg, hk, hr, hset]
    · intro e he
      rw [Array.toList_push] at he
      rcases List.mem_append.1 he with he | he
      · exact hes e he
      · obtain rfl : e = { key := sval s, val := kv s, born := c } := by simpa using he
        exact ⟨s, rfl, rfl⟩
  | some p =>
    obtain ⟨i, v⟩ := p
    obtain ⟨k, e, rfl, he, hkey, hv⟩ := hf
    have hlt : k < es.size := by simpa using (List.getElem?_eq_some_iff.1 he).1
    have hee : es[0 + k]? = some e := by rw [Nat.zero_add]; simpa using he
    refine ⟨es.modify (0 + k) fun e => { e with key := sval s, val := kv s }, c, ?_, ?_⟩
    · simp only [Instr.mapUpdate, Sem.run_bind, run_underlying hu, Result.andThen_ok, hg, hk, hr, hee, Option.map_some, Option.getD_some, hkey, Instr.keyThatStays, same_bits, if_true, Sem.run_pure, hset]
    · intro e' he'
      obtain ⟨j, hj, hje⟩ := List.getElem_of_mem he'
      have hj' : (es.modify (0 + k) fun e => { e with key := sval s, val := kv s })[j]? = some e' := by
        rw [← Array.getElem?_toList]; rw [List.getElem?_eq_getElem hj, hje]
      rw [Array.getElem?_modify] at hj'
      by_cases hjk : 0 + k = j
      · rw [if_pos hjk] at hj'
        obtain ⟨e2, _, rfl⟩ := Option.map_eq_some_iff.1 hj'
        exact ⟨s, rfl, rfl⟩
      · rw [if_neg hjk] at hj'
        exact hes e' (by rw [← Array.getElem?_toList] at hj'; exact List.mem_of_getElem? hj')

end Go.Proofs.Ytkgdejhooghknaa
