/- The table of codes: a map whose keys are structs of a length and a number. -/
import Derived.Test.YtkdjljnplfempaaWfRead
import Derived.Test.YtkdjljnplfempaaWfInf
import Derived.Test.YtkdjljnplfempaaWfHuffD
import Derived.Laws.StructEq
import Derived.DeepKeys3
import Derived.Test.YtkdjljnplfempaaWfHuffP
import Derived.WalkKit
import Derived.WalkLawsBesides
import Derived.Lib.Hide
import Derived.Deep.QuietTactic
import Derived.BigQuiet
import Derived.Handy
set_option linter.unusedVariables false
set_option linter.unusedSimpArgs false
set_option linter.unusedSectionVars false
namespace Go.Proofs.Ytkdjljnplfempaa
open Go.RowKit Wf

def keyV (a b : Int) : Value := .agg #[.int .i64 a, .int .u64 b]

theorem run_keyEq (w : World) (a b a' b' : Int) : (Op.equal 118 (keyV a b) (keyV a' b')).run Try.prog w = .ok (a == a' && b == b') w := by
  unfold keyV Op.equal Op.maxDepth
  go_simp
  by_cases h1 : a = a' <;> by_cases h2 : b = b' <;> simp [h1, h2]

theorem run_keyCheckN (w : World) (em : Bool) (n : Nat) (a b : Int) : (Instr.checkKey em (n + 2) 118 (keyV a b)).run Try.prog w = .ok () w := by
  unfold keyV
  rw [Instr.checkKey]
  go_simp
  rw [Instr.checkKey, Instr.checkKey]
  go_simp

theorem run_keyCheck (w : World) (em : Bool) (a b : Int) : (Instr.checkKey em 10000 118 (keyV a b)).run Try.prog w = .ok () w := run_keyCheckN w em 9998 a b

/-- An entry: a key and what it stands for. -/
abbrev Ent := (Nat × Nat) × Nat
def entV (x : Ent) : Value × Value := (keyV x.1.1 x.1.2, .int .i64 x.2)

/-- Block m is a map that holds these entries. -/
def MapIs (w : World) (m : Nat) (L : List Ent) : Prop :=
  ∃ es clock, w.heap[m]? = some (.map es clock) ∧ es.toList.map (fun e => (e.key, e.val)) = L.map entV

theorem MapIs.lt {w : World} {m : Nat} {L : List Ent} (h : MapIs w m L) : m < w.heap.size := by
  obtain ⟨es, c, h, _⟩ := h
  exact lt_of_heap h
theorem MapIs.keep {w w' : World} {m : Nat} {L : List Ent} {M : Nat → Prop} (h : MapIs w m L) (hk : Keep M w w') (hn : ¬ M m) : MapIs w' m L := by
  obtain ⟨es, c, h, h2⟩ := h
  exact ⟨es, c, (hk.block m (lt_of_heap h) hn).trans h, h2⟩

theorem run_findAsking (w : World) (a b : Nat) : ∀ (es : List MapEntry) (L : List Ent) (i : Nat), es.map (fun e => (e.key, e.val)) = L.map entV →
    ∃ r, (Instr.findAsking 118 (keyV a b) es i).run Try.prog w = .ok r w ∧ r.map (·.2) = (L.find? (fun x => x.1 = (a, b))).map (fun x => Value.int .i64 x.2) := by
  intro es
  induction es with
  | nil =>
    intro L i h
    cases L with
    | cons _ _ => simp at h
    | nil => exact ⟨none, by simp [Instr.findAsking], by simp⟩
  | cons e es ih =>
    intro L i h
    cases L with
    | nil => simp at h
    | cons x L =>
      simp only [List.map_cons, List.cons.injEq] at h
      obtain ⟨h1, h2⟩ := h
      have hk : e.key = keyV x.1.1 x.1.2 := congrArg Prod.fst h1
      have hv : e.val = .int .i64 x.2 := congrArg Prod.snd h1
      obtain ⟨r, hr, hr2⟩ := ih L (i + 1) h2
      rw [Instr.findAsking]
      simp only [Sem.run_bind, hk, run_keyEq, Result.andThen_ok]
      by_cases he : x.1 = (a, b)
      · refine ⟨some (i, e.val), ?_, ?_⟩
        · rw [he]; simp
        · simp [he, hv]
      · refine ⟨r, ?_, ?_⟩
        · have : ((a : Int) == (x.1.1 : Int) && (b : Int) == (x.1.2 : Int)) = false := by
            cases hb : ((a : Int) == (x.1.1 : Int) && (b : Int) == (x.1.2 : Int)) with
            | false => rfl
            | true =>
              exfalso
              simp only [Bool.and_eq_true, beq_iff_eq] at hb
              exact he (Prod.ext (by have := hb.1; omega) (by have := hb.2; omega))
          rw [this]
          simpa using hr
        · rw [List.find?_cons, decide_eq_false he]
          exact hr2

theorem run_find (w : World) (a b : Nat) (es : List MapEntry) (L : List Ent) (h : es.map (fun e => (e.key, e.val)) = L.map entV) :
    ∃ r, (Instr.findKey 118 (keyV a b) es).run Try.prog w = .ok r w ∧ r.map (·.2) = (L.find? (fun x => x.1 = (a, b))).map (fun x => Value.int .i64 x.2) := by
  obtain ⟨r, hr, h2⟩ := run_findAsking w a b es L 0 h
  cases es with
  | nil =>
    refine ⟨none, ?_, ?_⟩
    · simp [Instr.findKey, run_underlying Try.underlying118, Instr.findNow]
    · cases L with
      | nil => simp
      | cons _ _ => simp at h
  | cons e es =>
    refine ⟨r, ?_, h2⟩
    rw [Instr.findKey]
    simp only [Sem.run_bind, run_underlying Try.underlying118, Result.andThen_ok, Instr.findNow, keyV, Instr.sameNow]
    exact hr

/-- What a look-up tells. -/
def lookV (L : List Ent) (a b : Nat) : Value := match L.find? (fun x => x.1 = (a, b)) with
  | some x => .tuple #[.int .i64 x.2, .bool true]
  | none => .tuple #[.int .i64 0, .bool false]

theorem run_lookup {w : World} {m : Nat} {L : List Ent} (h : MapIs w m L) (a b : Nat) :
    (Instr.lookup 144 (.map (some m)) (keyV a b) true).run Try.prog w = .ok (lookV L a b) w := by
  obtain ⟨es, clock, hh, hL⟩ := h
  obtain ⟨r, hr, h2⟩ := run_find w a b es.toList L hL
  rw [Instr.lookup]
  simp only [Sem.run_bind, run_underlying Try.underlying144, Result.andThen_ok, MapKept.run_getObj_map hh, run_keyCheck, hr, Sem.run_pure]
  unfold lookV
  cases hf : L.find? (fun x => x.1 = (a, b)) with
  | none =>
    rw [hf] at h2
    cases r with
    | some _ => simp at h2
    | none => go_simp
  | some x =>
    rw [hf] at h2
    cases r with
    | none => simp at h2
    | some v => simp at h2; simp [h2]

theorem run_update {w : World} {m : Nat} {L : List Ent} (h : MapIs w m L) (a b i : Nat) (hn : L.find? (fun x => x.1 = (a, b)) = none) :
    ∃ w', (Instr.mapUpdate 144 (.map (some m)) (keyV a b) (.int .i64 i)).run Try.prog w = .ok () w' ∧ MapIs w' m (L ++ [((a, b), i)]) ∧ Keep (fun k => k = m) w w' := by
  obtain ⟨es, clock, hh, hL⟩ := h
  obtain ⟨r, hr, h2⟩ := run_find w a b es.toList L hL
  rw [hn] at h2
  cases r with
  | some _ => simp at h2
  | none =>
    refine ⟨{ w with heap := w.heap.setIfInBounds m (.map (es.push { key := keyV a b, val := .int .i64 i, born := clock }) (clock + 1)) }, ?_, ⟨es.push { key := keyV a b, val := .int .i64 i, born := clock }, clock + 1, ?_, ?_⟩, ?_⟩
    · rw [Instr.mapUpdate]
      simp only [Sem.run_bind, run_underlying Try.underlying144, Result.andThen_ok, MapKept.run_getObj_map hh, run_keyCheck, hr]
      exact MapKept.run_setObj_map _ hh
    · simp [lt_of_heap hh]
    · simp only [Array.toList_push, List.map_append, hL, List.map_cons, List.map_nil]
      rfl
    · exact ⟨rfl, rfl, rfl, by simp, fun k hk hn => by simp [Array.getElem?_setIfInBounds_ne (Ne.symm hn)]⟩

theorem wpList_newEntry {w : World} {ops : Array Oper} {rest : List Oper} {o : Oper} {a : Act} {Q : Exit → Act → World → Prop} (hg : o.guard = none) (mo x v : Operand) (hop : o.op = Op.mapUpdate 144 mo x v)
    {m : Nat} {L : List Ent} (h : MapIs w m L) (p q i : Nat) (hn : L.find? (fun x => x.1 = (p, q)) = none)
    (hm : a.eval mo = .map (some m)) (hx : a.eval x = keyV p q) (hv : a.eval v = .int .i64 i)
    (hK : ∀ w', MapIs w' m (L ++ [((p, q), i)]) → Keep (fun k => k = m) w w' → wpList Try.prog ops Q rest (a.put o.dst undef) w') : wpList Try.prog ops Q (o :: rest) a w := by
  refine wpList_plain hg fun K' hK' => ?_
  obtain ⟨w', hrun, r1, r2⟩ := run_update h p q i hn
  unfold Oper.wp
  simp [execOp, hop, hm, hx, hv, hrun, Result.andThen]
  exact hK' _ _ (hK w' r1 r2)
end Go.Proofs.Ytkdjljnplfempaa
