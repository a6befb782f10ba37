/- Inflate: the closure that recovers, and the whole call. -/
import Derived.Test.YtkdjljnplfempaaWfRead
import Derived.Test.YtkdjljnplfempaaWfInf
import Derived.Test.YtkdjljnplfempaaWfAll
import Derived.Defers
import Derived.Recover
import Derived.Tactics
import Derived.Tactics2
import Derived.Laws.Pointers
import Derived.Deep.LoopGhost
import Derived.StillTailTactics
import Derived.Deep.RegionHeld3
import Derived.Deep.RegionWith
import Derived.Test.YtkdjljnplfempaaWfHuffP
import Derived.WalkKit
import Derived.WalkLawsBesides
import Derived.Lib.Hide
import Derived.Deep.QuietTactic
import Derived.BigQuiet
import Derived.Handy
set_option linter.unusedVariables false
set_option linter.unusedSimpArgs false
set_option linter.unusedSectionVars false
namespace Go.Proofs.Ytkdjljnplfempaa
open Go.RowKit Wf

theorem catch_idle (a0 a1 a2 : Value) (w : World) :
    CallsD Try.prog 33 #[a0, a1, a2] .returning w fun e u' w' => e = .returned (.tuple #[]) ∧ u' = .returning ∧ w' = w := by
  refine callsD_of_wpS Try.func33 rfl fun c₀ cs hu => ?_
  simp only [Try.ntmps33, List.size_toArray, List.length_cons, List.length_nil, Nat.reduceAdd, Nat.reduceSub, Array.replicate_succ,
     Array.replicate_zero, List.push_toArray, List.append_toArray, List.nil_append, List.cons_append]
  apply wpS_seq
  apply wpS_region
  simp [wpOpsS, go_sem, recoverD, hu, Exit.thenS]
  refine wpS_of_wp ?_
  generalize hQ : (fun (e : Exit) (a' : Act) (w' : World) => bodyPostS Try.prog Try.f33 _ _ _ e a' _ w') = Q
  go_wp2_with fail
  subst hQ
  cases c₀
  simp_all [bodyPostS, results, Try.results33]

set_option maxRecDepth 100000 in
set_option maxHeartbeats 1600000 in
theorem catch_panicking (g0 g1 g2 : Nat) (x0 x1 x2 : Value) (k : Int) (older : List PanicEntry) (w : World) (n : Nat) (h0 : Blk w g0 22 #[x0]) (h1 : Blk w g1 3 #[x1]) (h2 : Blk w g2 23 #[x2]) (hn0 : n ≤ g0) (hn1 : g0 < g1) (hn2 : g1 < g2) :
    CallsD Try.prog 33 #[.pointer (some ⟨g0, 0, none⟩), .pointer (some ⟨g1, 0, none⟩), .pointer (some ⟨g2, 0, none⟩)] (.panicking ({ v := .iface 62 (.agg #[.int .i64 k]), recovered := false } :: older)) w fun e u' w' =>
      e = .returned (.tuple #[]) ∧ u' = .panicking ({ v := .iface 62 (.agg #[.int .i64 k]), recovered := true } :: older) ∧
      Blk w' g0 22 #[.slice none 0 0] ∧ Blk w' g1 3 #[.int .i64 0] ∧ Blk w' g2 23 #[.int .i64 k] ∧ Below n w w' := by
  refine callsD_of_wpS Try.func33 rfl fun c₀ cs hu => ?_
  simp only [Try.ntmps33, List.size_toArray, List.length_cons, List.length_nil, Nat.reduceAdd, Nat.reduceSub, Array.replicate_succ,
     Array.replicate_zero, List.push_toArray, List.append_toArray, List.nil_append, List.cons_append]
  apply wpS_seq
  apply wpS_region
  simp [wpOpsS, go_sem, recoverD, hu, Exit.thenS]
  refine wpS_of_wp ?_
  generalize hQ : (fun (e : Exit) (a' : Act) (w' : World) => bodyPostS Try.prog Try.f33 _ _ _ e a' _ w') = Q
  have hta : ∀ w, (Instr.typeAssert (.iface 62 (.agg #[.int .i64 k])) 20 62 true).run Try.prog w = .ok (.tuple #[.agg #[.int .i64 k], .bool true]) w := fun w => by rfl
  go_wp2_with fail
  have l0 := h0.lt
  have l1 := h1.lt
  have l2 := h2.lt
  have e0 := h0.alloc (.cells #[.int .i64 k] 62)
  have e1 := h1.alloc (.cells #[.int .i64 k] 62)
  have e2 := h2.alloc (.cells #[.int .i64 k] 62)
  have e3 := Blk.new w 62 #[.int .i64 k]
  have hbel : Below n w (w.alloc (.cells #[.int .i64 k] 62)) := (Below.refl n w).alloc (by omega) _
  generalize hg3 : w.heap.size = g3 at e3 l0 l1 l2 ⊢
  generalize w.alloc (.cells #[.int .i64 k] 62) = w3 at e0 e1 e2 e3 hbel ⊢
  clear h0 h1 h2
  have c0 : w3.cell? ⟨g0, 0, none⟩ = some x0 := e0.cell 0
  have c1 : w3.cell? ⟨g1, 0, none⟩ = some x1 := e1.cell 0
  have c2 : w3.cell? ⟨g2, 0, none⟩ = some x2 := e2.cell 0
  have c3 : w3.cell? ⟨g3, 0, none⟩ = some (.int .i64 k) := e3.cell 0
  have f0 := e0.frozen 0
  have f1 := e1.frozen 0
  have f2 := e2.frozen 0
  have n0 : ¬ g1 = g0 := by omega
  have n1 : ¬ g2 = g0 := by omega
  have n2 : ¬ g2 = g1 := by omega
  have n3 : ¬ g3 = g0 := by omega
  have n4 : ¬ g3 = g1 := by omega
  have n5 : ¬ g3 = g2 := by omega
  go_region
  subst hQ
  refine ⟨rfl, _, rfl, .tuple #[], by simp [results, Try.results33], rfl, rfl, ?_, ?_, ?_, ?_⟩
  · exact (((e0.set_ 0 _).far (p := ⟨g1, 0, none⟩) (by show g0 ≠ g1; omega) _).far (p := ⟨g2, 0, none⟩) (by show g0 ≠ g2; omega) _).drew
  · exact (((e1.far (p := ⟨g0, 0, none⟩) (by show g1 ≠ g0; omega) _).set_ 0 _).far (p := ⟨g2, 0, none⟩) (by show g1 ≠ g2; omega) _).drew
  · exact (((e2.far (p := ⟨g0, 0, none⟩) (by show g2 ≠ g0; omega) _).far (p := ⟨g1, 0, none⟩) (by show g2 ≠ g1; omega) _).set_ 0 _).drew
  · exact (((hbel.setCell (p := ⟨g0, 0, none⟩) (by show n ≤ g0; omega) _).setCell (p := ⟨g1, 0, none⟩) (by show n ≤ g1; omega) _).setCell (p := ⟨g2, 0, none⟩) (by show n ≤ g2; omega) _).drew

/-- What Inflate answers. -/
def InfPost (w : World) (v0 : Value) (R : Except Int (List Int × Nat)) (e : Ending) (w' : World) : Prop :=
  Below w.heap.size w w' ∧ match R with
  | .ok (out, used) => ∃ vo, e = .returned (.tuple #[vo, .int .i64 used, .int .i64 0]) ∧ w'.ownsRow w.heap.size 5 1 vo out.length (ints .u8 out)
  | .error k => e = .returned (.tuple #[.slice none 0 0, .int .i64 0, .int .i64 k])

set_option maxRecDepth 100000 in
set_option maxHeartbeats 1600000 in
theorem inflate_calls (w : World) (A : Option Addr) (c : Nat) (b : List Int) (most : Int) (hs : Sees w A (ints .u8 b)) (hb : Bytes b) (hlen : b.length ≤ 140737488351232) :
    Calls Try.prog 10 #[.slice A b.length c, .int .i64 most] w (InfPost w (.slice A b.length c) (inflateS b most)) := by
  generalize hR : inflateS b most = R
  have HR := Lib.hid hR
  clear hR
  have hmf : ∀ (fn : Fn) (first cap : Array Value) (w : World), (Instr.makeFunc fn first cap).run Try.prog w = .ok (.func fn first cap) w := fun _ _ _ _ => rfl
  by_cases hm0 : most < 0
  · go_enter_defers Try.func10, Try.ntmps10
    go_wp2_with fail
    refine ⟨.tuple #[.slice none 0 0, .int .i64 0, .int .i64 2], by simp [results, Try.results10, go_sem], ?_⟩
    have hr := HR.out
    rw [inflateS, if_pos (.inl hm0)] at hr
    subst hr
    exact ⟨(((Below.refl _ w).alloc (by omega) _).alloc (by simp <;> omega) _).alloc (by simp <;> omega) _, rfl⟩
  · by_cases hm1 : 65536 < most
    · go_enter_defers Try.func10, Try.ntmps10
      go_wp2_with fail
      refine ⟨.tuple #[.slice none 0 0, .int .i64 0, .int .i64 2], by simp [results, Try.results10, go_sem], ?_⟩
      have hr := HR.out
      rw [inflateS, if_pos (.inr hm1)] at hr
      subst hr
      exact ⟨(((Below.refl _ w).alloc (by omega) _).alloc (by simp <;> omega) _).alloc (by simp <;> omega) _, rfl⟩
    · obtain ⟨m, rfl⟩ : ∃ m : Nat, most = m := ⟨most.toNat, by omega⟩
      have hr := HR.out
      rw [inflateS, if_neg (by omega), Int.toNat_natCast] at hr
      replace HR := Lib.hid hr
      clear hr
      go_enter_defers Try.func10, Try.ntmps10
      go_wp2_with fail
      have b0 := (((Blk.new w 22 #[.slice none 0 0]).alloc (.cells #[.int .i64 0] 3)).alloc (.cells #[.int .i64 0] 23)).alloc (.cells #[.slice A b.length c, .int .i64 0, .slice none 0 0, .int .i64 (m : Int)] 66)
      have b1 := ((Blk.new (w.alloc (.cells #[.slice none 0 0] 22)) 3 #[.int .i64 0]).alloc (.cells #[.int .i64 0] 23)).alloc (.cells #[.slice A b.length c, .int .i64 0, .slice none 0 0, .int .i64 (m : Int)] 66)
      have b2 := (Blk.new ((w.alloc (.cells #[.slice none 0 0] 22)).alloc (.cells #[.int .i64 0] 3)) 23 #[.int .i64 0]).alloc (.cells #[.slice A b.length c, .int .i64 0, .slice none 0 0, .int .i64 (m : Int)] 66)
      have b3 := Blk.new (((w.alloc (.cells #[.slice none 0 0] 22)).alloc (.cells #[.int .i64 0] 3)).alloc (.cells #[.int .i64 0] 23)) 66 #[.slice A b.length c, .int .i64 0, .slice none 0 0, .int .i64 (m : Int)]
      have hbl : Below w.heap.size w ((((w.alloc (.cells #[.slice none 0 0] 22)).alloc (.cells #[.int .i64 0] 3)).alloc (.cells #[.int .i64 0] 23)).alloc (.cells #[.slice A b.length c, .int .i64 0, .slice none 0 0, .int .i64 (m : Int)] 66)) :=
        ((((Below.refl _ w).alloc (by omega) _).alloc (by simp <;> omega) _).alloc (by simp <;> omega) _).alloc (by simp <;> omega) _
      simp only [World.size_alloc] at b0 b1 b2 b3
      obtain ⟨g, hg⟩ : ∃ g, g = w.heap.size := ⟨_, rfl⟩
      rw [← hg] at b0 b1 b2 b3 ⊢
      generalize ((((w.alloc (.cells #[.slice none 0 0] 22)).alloc (.cells #[.int .i64 0] 3)).alloc (.cells #[.int .i64 0] 23)).alloc (.cells #[.slice A b.length c, .int .i64 0, .slice none 0 0, .int .i64 (m : Int)] 66)) = w4 at b0 b1 b2 b3 hbl ⊢
      have h4 : Str w4 (g + 1 + 1 + 1) (.slice A b.length c) b m ⟨0, []⟩ := ⟨⟨⟨A, c, rfl, hs.below hbl, fun hne k hk => by have := sees_lt hs hne k hk; omega⟩, hb, by omega⟩, ⟨_, b3, World.ownsRow_nil _ _ _ _⟩, by simp, by simp, by omega⟩
      have HG := Lib.hid hg
      rw [← hg] at hbl
      clear hg
      have hcf := all_calls w4 (g + 1 + 1 + 1) (.slice A b.length c) b m (8 * b.length + 1) ⟨0, []⟩ h4 (by simp)
      cases ha : allS b m (8 * b.length + 1) ⟨0, []⟩ with
      | error e0 =>
        rw [ha] at hcf
        have hr := HR.out
        rw [ha] at hr
        have hr : Except.error e0 = R := hr
        subst hr
        refine hcf.mono ?_
        clear hcf
        rintro r w5 ⟨hs5, hwr⟩
        unfold Wrong at hwr
        subst hwr
        have d0 := b0.step hs5 (.inl (by omega))
        have d1 := b1.step hs5 (.inl (by omega))
        have d2 := b2.step hs5 (.inl (by omega))
        show bodyPostD _ _ _ _ _ _
        refine leaves_cons (f := 33) (args := #[.pointer (some ⟨g, 0, none⟩), .pointer (some ⟨g + 1, 0, none⟩), .pointer (some ⟨g + 1 + 1, 0, none⟩)]) (by simp) (by simp [go_sem]) ?_
        refine (catch_panicking g (g + 1) (g + 1 + 1) _ _ _ e0 [] w5 g d0 d1 d2 (by omega) (by omega) (by omega)).mono ?_
        rintro e u' w6 ⟨rfl, rfl, k0, k1, k2, hb6⟩
        have c0 : w6.cell? ⟨g, 0, none⟩ = some (.slice none 0 0) := k0.cell 0
        have c1 : w6.cell? ⟨g + 1, 0, none⟩ = some (.int .i64 0) := k1.cell 0
        have c2 : w6.cell? ⟨g + 1 + 1, 0, none⟩ = some (.int .i64 e0) := k2.cell 0
        refine ⟨.tuple #[.slice none 0 0, .int .i64 0, .int .i64 e0], by simp [results, Try.results10, go_sem, c0, c1, c2], ?_, rfl⟩
        rw [← HG.out]
        exact hbl.trans (((hs5.below (by have := b3.lt; omega)).mono (by omega)).trans hb6)
      | ok s =>
        rw [ha] at hcf
        have hr := HR.out
        rw [ha] at hr
        have hr : Except.ok (s.out, (s.pos + 7) / 8) = R := hr
        subst hr
        refine hcf.mono ?_
        clear hcf
        rintro r w5 ⟨hs5, rfl, h5⟩
        have d0 := b0.step hs5 (.inl (by omega))
        have d1 := b1.step hs5 (.inl (by omega))
        have d2 := b2.step hs5 (.inl (by omega))
        obtain ⟨vo, hb5, ho5⟩ := h5.blk
        obtain ⟨Ao, co, rfl⟩ := ho5.isSlice
        have hpos := h5.pos
        have lt0 := d0.lt
        have lt1 := d1.lt
        have lt2 := d2.lt
        have q1 : IntKind.i64.wrap ((s.pos : Int) + 7) = (s.pos : Int) + 7 := IntWalk.i64_in _ (by omega)
        have q2 : ((s.pos : Int) + 7).tdiv 8 = (((s.pos + 7) / 8 : Nat) : Int) := by rw [Int.tdiv_eq_ediv_of_nonneg (by omega)]; omega
        have q3 : IntKind.i64.wrap (((s.pos + 7) / 8 : Nat) : Int) = (((s.pos + 7) / 8 : Nat) : Int) := IntWalk.i64_in _ (by omega)
        have c0 : w5.cell? ⟨g, 0, none⟩ = some (.slice none 0 0) := d0.cell 0
        have c1 : w5.cell? ⟨g + 1, 0, none⟩ = some (.int .i64 0) := d1.cell 0
        have c2 : w5.cell? ⟨g + 1 + 1, 0, none⟩ = some (.int .i64 0) := d2.cell 0
        have c3 : w5.cell? ⟨g + 1 + 1 + 1, 1, none⟩ = some (.int .i64 s.pos) := hb5.cell 1
        have c4 : w5.cell? ⟨g + 1 + 1 + 1, 2, none⟩ = some (.slice Ao s.out.length co) := hb5.cell 2
        have f0 := d0.frozen 0
        have f1 := d1.frozen 0
        have f2 := d2.frozen 0
        go_wp2_with fail
        go_region
        go_wp2_with fail
        have k0 := (((d0.set_ 0 (.slice Ao s.out.length co)).far (p := ⟨g + 1, 0, none⟩) (by show g ≠ g + 1; omega) (.int .i64 (((s.pos : Int) + 7) / 8))).far (p := ⟨g + 1 + 1, 0, none⟩) (by show g ≠ g + 1 + 1; omega) (.int .i64 0)).drew
        have k1 := (((d1.far (p := ⟨g, 0, none⟩) (by show g + 1 ≠ g; omega) (.slice Ao s.out.length co)).set_ 0 (.int .i64 (((s.pos : Int) + 7) / 8))).far (p := ⟨g + 1 + 1, 0, none⟩) (by show g + 1 ≠ g + 1 + 1; omega) (.int .i64 0)).drew
        have k2 := (((d2.far (p := ⟨g, 0, none⟩) (by show g + 1 + 1 ≠ g; omega) (.slice Ao s.out.length co)).far (p := ⟨g + 1, 0, none⟩) (by show g + 1 + 1 ≠ g + 1; omega) (.int .i64 (((s.pos : Int) + 7) / 8))).set_ 0 (.int .i64 0)).drew
        have hk : Keep (fun k => g ≤ k ∧ k < g + 1 + 1 + 1) w5 (((w5.setCell ⟨g, 0, none⟩ (.slice Ao s.out.length co)).setCell ⟨g + 1, 0, none⟩ (.int .i64 (((s.pos : Int) + 7) / 8))).setCell ⟨g + 1 + 1, 0, none⟩ (.int .i64 0)).drew :=
          ((((Keep.refl _ w5).setCell (p := ⟨g, 0, none⟩) (.inl (by show g ≤ g ∧ g < g + 1 + 1 + 1; omega)) _).setCell (p := ⟨g + 1, 0, none⟩) (.inl (by show g ≤ g + 1 ∧ g + 1 < g + 1 + 1 + 1; omega)) _).setCell (p := ⟨g + 1 + 1, 0, none⟩) (.inl (by show g ≤ g + 1 + 1 ∧ g + 1 + 1 < g + 1 + 1 + 1; omega)) _).drew
        generalize (((w5.setCell ⟨g, 0, none⟩ (.slice Ao s.out.length co)).setCell ⟨g + 1, 0, none⟩ (.int .i64 (((s.pos : Int) + 7) / 8))).setCell ⟨g + 1 + 1, 0, none⟩ (.int .i64 0)).drew = w6 at k0 k1 k2 hk ⊢
        refine leaves_cons (f := 33) (args := #[.pointer (some ⟨g, 0, none⟩), .pointer (some ⟨g + 1, 0, none⟩), .pointer (some ⟨g + 1 + 1, 0, none⟩)]) (by simp) (by simp [go_sem]) ?_
        refine (catch_idle _ _ _ w6).mono ?_
        rintro e u' w7 ⟨rfl, rfl, rfl⟩
        replace c0 : w7.cell? ⟨g, 0, none⟩ = some (.slice Ao s.out.length co) := k0.cell 0
        replace c1 : w7.cell? ⟨g + 1, 0, none⟩ = some (.int .i64 (((s.pos : Int) + 7) / 8)) := k1.cell 0
        replace c2 : w7.cell? ⟨g + 1 + 1, 0, none⟩ = some (.int .i64 0) := k2.cell 0
        refine ⟨.tuple #[.slice Ao s.out.length co, .int .i64 (((s.pos : Int) + 7) / 8), .int .i64 0], by simp [results, Try.results10, go_sem, c0, c1, c2], ?_, _, rfl, ?_⟩
        · rw [← HG.out]
          exact hbl.trans (((hs5.below (by have := b3.lt; omega)).mono (by omega)).trans (hk.below (fun _ h => h.1) (by omega)))
        · have := ownsRow_keep ho5 hk fun g' hg' hM => by
            rcases ho5.2 with ⟨hv, _⟩ | ⟨gg, cap, cur, hv, hbg, _⟩
            · injection hv with e1; subst e1; cases hg'
            · injection hv with e1; subst e1; have e2 : gg = g' := by simpa [Value.ownBlock] using hg'
              have := hM.2; omega
          rw [← HG.out]
          exact ⟨this.1, this.2.imp id fun ⟨gg, cap, cur, h1, h2, h3⟩ => ⟨gg, cap, cur, h1, by omega, h3⟩⟩
end Go.Proofs.Ytkdjljnplfempaa
