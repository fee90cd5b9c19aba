/- The memory of what is found: a map whose keys are states. -/
import Derived.Test.YtcgkglonnmkfcaaE2
import Derived.RangeFuncRecord
namespace Go.Proofs.Ytcgkglonnmkfcaa
open Go.RowKit Go.Lap

theorem part3 (xs : Array Value) (i : Nat) (v : Value) (h : xs[i]? = some v) (w : World) : (part 3 xs i).run Try.prog w = .ok v w := by
  unfold part
  simp [h, go_sem]

abbrev bval (b : Bench) : Value := .agg #[.int .u64 b.done, .int .i64 b.kind, .int .i64 b.late]

theorem eq_state (s t : Bench) (w : World) : (Op.equal 72 (bval s) (bval t)).run Try.prog w = .ok (decide (s = t)) w := by
  show (Op.equalIn (9996 + 4) 72 (bval s) (bval t)).run Try.prog w = _
  rw [run_equalIn_agg _ _ _ _ _ (by kernel_rfl) (by kernel_rfl)]
  go_simp
  obtain ⟨a1, a2, a3⟩ := s
  obtain ⟨b1, b2, b3⟩ := t
  simp only [Bench.mk.injEq]
  by_cases h1 : a1 = b1
  · by_cases h2 : a2 = b2
    · by_cases h3 : a3 = b3 <;> simp [h1, h2, h3]
    · simp [h2]
  · have : ¬ (a1 : Int) = b1 := by omega
    simp [h1, this]

theorem check_key (e : Bool) (a b c : Int) (w : World) : (Instr.checkKey e 10000 72 (.agg #[.int .u64 a, .int .i64 b, .int .i64 c])).run Try.prog w = .ok () w := by kernel_rfl

theorem bval_inj {s t : Bench} (h : bval s = bval t) : s = t := by
  simp only [bval, Value.agg.injEq, Array.mk.injEq, List.cons.injEq, Value.int.injEq, true_and, and_true] at h
  exact Bench.ext (Int.ofNat.inj h.1) h.2.1 h.2.2

/-- What a search for a key comes to. -/
def Found (s : Bench) (es : List MapEntry) (i0 : Nat) : Option (Nat × Value) → Prop
  | none => ∀ e, e ∈ es → e.key ≠ bval s
  | some (i, v) => ∃ k e, i = i0 + k ∧ es[k]? = some e ∧ e.key = bval s ∧ v = e.val

theorem find_asking (s : Bench) (w : World) : ∀ (es : List MapEntry) (i : Nat), (∀ e, e ∈ es → ∃ t : Bench, e.key = bval t) →
    ∃ r, (Instr.findAsking 72 (bval s) es i).run Try.prog w = .ok r w ∧ Found s es i r
  | [], i, _ => ⟨none, rfl, fun _ h => by cases h⟩
  | e :: es, i, h => by
    obtain ⟨t, ht⟩ := h e (by simp)
    by_cases hst : s = t
    · refine ⟨some (i, e.val), ?_, 0, e, rfl, rfl, by rw [ht, hst], rfl⟩
      rw [Instr.findAsking, ht]
      simp [Sem.run_bind, eq_state, hst]
    · obtain ⟨r, hr, hf⟩ := find_asking s w es (i + 1) (fun e' he' => h e' (by simp [he']))
      refine ⟨r, ?_, ?_⟩
      · rw [Instr.findAsking, ht]
        simp [Sem.run_bind, eq_state, hst, hr]
      · cases r with
        | none =>
          intro e' he'
          rcases List.mem_cons.1 he' with rfl | he'
          · rw [ht]; exact fun h => hst (bval_inj h).symm
          · exact hf e' he'
        | some p =>
          obtain ⟨j, v⟩ := p
          obtain ⟨k, e', rfl, he', hk, hv⟩ := hf
          exact ⟨k + 1, e', by omega, by simpa using he', hk, hv⟩

theorem find_key (s : Bench) (w : World) (es : List MapEntry) (h : ∀ e, e ∈ es → ∃ t : Bench, e.key = bval t) :
    ∃ r, (Instr.findKey 72 (bval s) es).run Try.prog w = .ok r w ∧ Found s es 0 r := by
  have hu : Try.prog.underlying 72 = some (.struct (Try.prog.fieldsOf 71)) := by kernel_rfl
  unfold Instr.findKey
  rw [Sem.run_bind, run_underlying hu]
  simp only [Result.andThen_ok]
  cases es with
  | nil => exact ⟨none, rfl, fun _ h => by cases h⟩
  | cons e es => exact find_asking s w (e :: es) 0 h

/-- A map's entries tell of each state that they have what 'kv' tells of it. -/
def Memo (kv : Bench → Value) (es : Array MapEntry) : Prop := ∀ e, e ∈ es.toList → ∃ t : Bench, e.key = bval t ∧ e.val = kv t

theorem memo_empty (kv : Bench → Value) : Memo kv #[] := fun e h => by simp at h

theorem lookup_memo {T E : TypeId} (hu : Try.prog.underlying T = some (.map 72 E)) {z : Value} (hz : ∀ w, (zeroValue E).run Try.prog w = .ok z w) {kv : Bench → Value} {w : World} {m : Nat} {es : Array MapEntry} {c : Nat}
    (hm : w.heap[m]? = some (.map es c)) (hes : Memo kv es) (s : Bench) :
    ∃ (ok : Bool) (v : Value), (Instr.lookup T (.map (some m)) (bval s) true).run Try.prog w = .ok (.tuple #[v, .bool ok]) w ∧ (ok = true ∧ v = kv s ∨ ok = false ∧ v = z) := by
  obtain ⟨r, hr, hf⟩ := find_key s w es.toList (fun e he => let ⟨t, h, _⟩ := hes e he; ⟨t, h⟩)
  have hg : (getObj m).run Try.prog w = .ok (.map es c) w := by simp [getObj, Sem.run, hm]
  have hk := check_key es.isEmpty s.done s.kind s.late w
  cases r with
  | none =>
    refine ⟨false, z, ?_, .inr ⟨rfl, rfl⟩⟩
    simp [Instr.lookup, Sem.run_bind, run_underlying hu, hg, hk, hr, hz]
  | some p =>
    obtain ⟨i, v⟩ := p
    obtain ⟨k, e, rfl, he, hkey, hv⟩ := hf
    refine ⟨true, v, ?_, .inl ⟨rfl, ?_⟩⟩
    · simp [Instr.lookup, Sem.run_bind, run_underlying hu, hg, hk, hr]
    · obtain ⟨t, ht, hval⟩ := hes e (List.mem_of_getElem? he)
      rw [hkey] at ht
      rw [hv, hval, bval_inj ht]

theorem same_bits (s : Bench) : Instr.sameBits 10000 (bval s) (bval s) = true := by
  show Instr.sameBits (9999 + 1) (bval s) (bval s) = true
  simp [Instr.sameBits]

theorem update_memo {T E : TypeId} (hu : Try.prog.underlying T = some (.map 72 E)) {kv : Bench → Value} {w : World} {m : Nat} {es : Array MapEntry} {c : Nat}
    (hm : w.heap[m]? = some (.map es c)) (hes : Memo kv es) (s : Bench) :
    ∃ es' c', (Instr.mapUpdate T (.map (some m)) (bval s) (kv s)).run Try.prog w = .ok () (w.putObj m (.map es' c')) ∧ Memo kv es' := by
  obtain ⟨r, hr, hf⟩ := find_key s w es.toList (fun e he => let ⟨t, h, _⟩ := hes e he; ⟨t, h⟩)
  have hg : (getObj m).run Try.prog w = .ok (.map es c) w := by simp [getObj, Sem.run, hm]
  have hk := check_key false s.done s.kind s.late w
  have hset : ∀ o, (setObj m o).run Try.prog w = .ok () (w.putObj m o) := fun o => by
    simp [setObj, Sem.run, hm, World.putObj]
  cases r with
  | none =>
    refine ⟨es.push { key := bval s, val := kv s, born := c }, c + 1, ?_, ?_⟩
    · simp [Instr.mapUpdate, Sem.run_bind, run_underlying hu, hg, hk, hr, hset]
    · intro e he
      rw [Array.toList_push] at he
      rcases List.mem_append.1 he with he | he
      · exact hes e he
      · obtain rfl : e = { key := bval s, val := kv s, born := c } := by simpa using he
        exact ⟨s, rfl, rfl⟩
  | some p =>
    obtain ⟨i, v⟩ := p
    obtain ⟨k, e, rfl, he, hkey, hv⟩ := hf
    have hlt : k < es.size := by simpa using (List.getElem?_eq_some_iff.1 he).1
    have hee : es[0 + k]? = some e := by rw [Nat.zero_add]; simpa using he
    refine ⟨es.modify (0 + k) fun e => { e with key := bval s, val := kv s }, c, ?_, ?_⟩
    · simp only [Instr.mapUpdate, Sem.run_bind, run_underlying hu, Result.andThen_ok, hg, hk, hr, hee, Option.map_some, Option.getD_some, hkey, Instr.keyThatStays, same_bits, if_true, Sem.run_pure, hset]
    · intro e' he'
      obtain ⟨j, hj, hje⟩ := List.getElem_of_mem he'
      have hj' : (es.modify (0 + k) fun e => { e with key := bval s, val := kv s })[j]? = some e' := by
        rw [← Array.getElem?_toList]; rw [List.getElem?_eq_getElem hj, hje]
      rw [Array.getElem?_modify] at hj'
      by_cases hjk : 0 + k = j
      · rw [if_pos hjk] at hj'
        obtain ⟨e2, _, rfl⟩ := Option.map_eq_some_iff.1 hj'
        exact ⟨s, rfl, rfl⟩
      · rw [if_neg hjk] at hj'
        exact hes e' (by rw [← Array.getElem?_toList] at hj'; exact List.mem_of_getElem? hj')

end Go.Proofs.Ytcgkglonnmkfcaa
