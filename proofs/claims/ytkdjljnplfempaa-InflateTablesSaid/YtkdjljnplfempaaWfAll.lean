/- A whole stream of blocks. -/
import Derived.Test.YtkdjljnplfempaaWfRead
import Derived.Test.YtkdjljnplfempaaWfInf
import Derived.Test.YtkdjljnplfempaaWfDyn
import Derived.Deep.LoopGhost
import Derived.StillTailTactics
import Derived.Deep.RegionHeld3
import Derived.Deep.RegionWith
import Derived.Test.YtkdjljnplfempaaWfHuffP
import Derived.WalkKit
import Derived.WalkLawsBesides
import Derived.Lib.Hide
import Derived.Deep.QuietTactic
import Derived.BigQuiet
import Derived.Handy
set_option linter.unusedVariables false
set_option linter.unusedSimpArgs false
set_option linter.unusedSectionVars false
namespace Go.Proofs.Ytkdjljnplfempaa
open Go.RowKit Wf

section
variable {b zs di fl : List Int} {most : Nat} {s s' : St}
theorem bind_ok {α β : Type} {x : Except Int α} {f : α → Except Int β} {y : β} (h : x.bind f = .ok y) : ∃ a, x = .ok a ∧ f a = .ok y := by
  cases x with
  | error e => cases h
  | ok a => exact ⟨a, rfl, h⟩
theorem takeS_pos {n k : Nat} (h : takeS b n s = .ok (k, s')) : s'.pos = s.pos + n := by
  unfold takeS at h
  split at h
  · cases h; rfl
  · cases h
theorem tellS_pos {c : Int} (h : tellS most c s = .ok s') : s'.pos = s.pos := by
  unfold tellS at h
  split at h <;> cases h
  rfl
theorem copyS_pos {back : Nat} : ∀ (n : Nat) (s : St), copyS most back n s = .ok s' → s'.pos = s.pos
  | 0, s, h => by cases h; rfl
  | n + 1, s, h => by
    obtain ⟨s1, h1, h2⟩ := bind_ok h
    rw [copyS_pos n s1 h2, tellS_pos h1]
theorem pieceS_pos {x : Nat} (h : pieceS b most di x s = .ok s') : s.pos ≤ s'.pos := by
  unfold pieceS at h
  cases hl : lenS x with
  | none => rw [hl] at h; cases h
  | some y =>
    obtain ⟨base, extra⟩ := y
    rw [hl] at h
    obtain ⟨⟨e, s1⟩, h1, h⟩ := bind_ok h
    obtain ⟨⟨d, s2⟩, h2, h⟩ := bind_ok h
    have p1 := takeS_pos h1
    have p2 := (symS_bound h2).1
    simp only at h
    cases hd : distS d with
    | none => rw [hd] at h; cases h
    | some z =>
      obtain ⟨far, more⟩ := z
      rw [hd] at h
      obtain ⟨⟨m, s3⟩, h3, h⟩ := bind_ok h
      have p3 := takeS_pos h3
      simp only at h
      split at h
      · cases h
      · have := copyS_pos _ _ h; omega
theorem codedS_pos : ∀ (f : Nat) (s : St), codedS b most zs di f s = .ok s' → s.pos ≤ s'.pos
  | 0, s, h => by cases h
  | f + 1, s, h => by
    obtain ⟨⟨x, s1⟩, h1, h⟩ := bind_ok h
    have p1 := (symS_bound h1).1
    simp only at h
    split at h
    · obtain ⟨s2, h2, h⟩ := bind_ok h
      have := codedS_pos f s2 h; have := tellS_pos h2; omega
    · split at h
      · cases h; omega
      · obtain ⟨s2, h2, h⟩ := bind_ok h
        have := codedS_pos f s2 h; have := pieceS_pos h2; omega
theorem codedP_pos (h : codedP b most zs di s = .ok s') : s.pos ≤ s'.pos := by
  unfold codedP at h
  split at h
  · exact codedS_pos _ _ h
  · cases h
theorem bytesS_pos : ∀ (n : Nat) (s : St), bytesS b most n s = .ok s' → s.pos ≤ s'.pos
  | 0, s, h => by cases h; omega
  | n + 1, s, h => by
    obtain ⟨⟨x, s1⟩, h1, h⟩ := bind_ok h
    obtain ⟨s2, h2, h⟩ := bind_ok h
    have := bytesS_pos n s2 h; have := takeS_pos h1; have := tellS_pos h2; omega
theorem storedS_pos (h : storedS b most s = .ok s') : s.pos ≤ s'.pos := by
  obtain ⟨⟨x, s1⟩, h1, h⟩ := bind_ok h
  obtain ⟨⟨y, s2⟩, h2, h⟩ := bind_ok h
  have p1 := takeS_pos h1
  have p2 := takeS_pos h2
  simp only at h p1
  split at h
  · have := bytesS_pos _ _ h; omega
  · cases h
theorem firstS_pos {l' : List Int} : ∀ (os : List Nat) (n : Nat) (l : List Int) (s : St), firstS b os n l s = .ok (l', s') → s.pos ≤ s'.pos
  | [], n, l, s, h => by cases h; omega
  | _ :: _, 0, l, s, h => by cases h; omega
  | i :: os, n + 1, l, s, h => by
    obtain ⟨⟨x, s1⟩, h1, h⟩ := bind_ok h
    have := firstS_pos os n _ s1 h; have := takeS_pos h1; omega
theorem repS_pos {row : List Int} {x : Nat} {y : Int × Nat} (h : repS b row x s = .ok (y, s')) : s.pos ≤ s'.pos := by
  unfold repS at h
  split at h
  · split at h
    · cases h
    · obtain ⟨⟨x, s1⟩, h1, h⟩ := bind_ok h; cases h; have := takeS_pos h1; omega
  · split at h
    · obtain ⟨⟨x, s1⟩, h1, h⟩ := bind_ok h; cases h; have := takeS_pos h1; omega
    · split at h
      · obtain ⟨⟨x, s1⟩, h1, h⟩ := bind_ok h; cases h; have := takeS_pos h1; omega
      · cases h; omega
theorem rowS_pos {al : Nat} {r : List Int} : ∀ (f : Nat) (row : List Int) (s : St), rowS b fl al f row s = .ok (r, s') → s.pos ≤ s'.pos
  | 0, row, s, h => by cases h
  | f + 1, row, s, h => by
    unfold rowS at h
    split at h
    · cases h; omega
    · obtain ⟨⟨x, s1⟩, h1, h⟩ := bind_ok h
      obtain ⟨⟨⟨v, t⟩, s2⟩, h2, h⟩ := bind_ok h
      simp only at h
      split at h
      · cases h
      · have := rowS_pos f _ s2 h; have := (symS_bound h1).1; have := repS_pos h2; omega
theorem dynS_pos (h : dynS b most s = .ok s') : s.pos ≤ s'.pos := by
  obtain ⟨⟨lit, s1⟩, h1, h⟩ := bind_ok h
  have p1 := takeS_pos h1
  simp only at h
  split at h
  · cases h
  obtain ⟨⟨dist, s2⟩, h2, h⟩ := bind_ok h
  have p2 := takeS_pos h2
  simp only at h
  split at h
  · cases h
  obtain ⟨⟨cl, s3⟩, h3, h⟩ := bind_ok h
  have p3 := takeS_pos h3
  obtain ⟨⟨fl, s4⟩, h4, h⟩ := bind_ok h
  have p4 := firstS_pos _ _ _ _ h4
  simp only at h p4
  split at h
  · obtain ⟨⟨row, s5⟩, h5, h⟩ := bind_ok h
    have p5 := rowS_pos _ _ _ h5
    simp only at h
    split at h
    · have := codedP_pos h; omega
    · cases h
  · cases h
theorem blockS_pos {k : Nat} (h : blockS b most k s = .ok s') : s.pos ≤ s'.pos := by
  unfold blockS at h
  split at h
  · exact storedS_pos h
  · split at h
    · exact codedP_pos h
    · split at h
      · exact dynS_pos h
      · cases h
end

theorem blockS_0 (b : List Int) (most : Nat) (s : St) : blockS b most 0 s = storedS b most s := by unfold blockS; rw [if_pos rfl]
theorem blockS_1 (b : List Int) (most : Nat) (s : St) : blockS b most 1 s = codedP b most fixedSy fixedDi s := by unfold blockS; rw [if_neg (by omega), if_pos rfl]
theorem blockS_2 (b : List Int) (most : Nat) (s : St) : blockS b most 2 s = dynS b most s := by unfold blockS; rw [if_neg (by omega), if_neg (by omega), if_pos rfl]
theorem blockS_3 (b : List Int) (most : Nat) (s : St) : blockS b most 3 s = .error 8 := by unfold blockS; rw [if_neg (by omega), if_neg (by omega), if_neg (by omega)]
set_option maxRecDepth 100000 in
theorem fixed_ints1 : (List.range 288).map (fun k => Value.int .i64 (fsV k)) = ints .i64 fixedSy := by
  rw [← ints_range]
  apply List.map_congr_left
  intro k hk
  have h : ∀ k, k < 288 → fsV k = nth fixedSy k := by decide
  rw [h k (by simpa using hk)]
theorem fixed_len1 : fixedSy.length = 288 := by unfold fixedSy; rw [List.length_append, List.length_append, List.length_append, List.length_replicate, List.length_replicate, List.length_replicate, List.length_replicate]
theorem fixed_len2 : fixedDi.length = 30 := by unfold fixedDi; rw [List.length_replicate]
theorem fixed_ints2 : (List.range 30).map (fun _ => Value.int .i64 5) = ints .i64 fixedDi := by rfl

set_option maxHeartbeats 1600000 in
theorem all_calls (w : World) (p : Nat) (v0 : Value) (b : List Int) (most : Nat) (k : Nat) (s : St) (h : Str w p v0 b most s) (hk : 8 * b.length < k + s.pos) :
    Calls Try.prog 34 #[.pointer (some ⟨p, 0, none⟩)] w (Post0 w p v0 b most (allS b most k s)) := by
  generalize hR : allS b most k s = R
  have HR := Lib.hid hR
  clear hR
  have hst : Wf.Step p TS w w := Wf.Step.refl p TS w
  go_enter Try.func34, Try.ntmps34
  go_wp2_with fail
  go_loopg [2] (k + 1) (fun m v2 wr => ∃ s' : St, Str wr p v0 b most s' ∧ Wf.Step p TS w wr ∧ ((v2 = .bool true ∧ R = .ok s' ∧ 0 < m) ∨ (v2 = .bool false ∧ ∃ f, m = f + 1 ∧ 8 * b.length < f + s'.pos ∧ allS b most f s' = R)))
  case atStart => exact ⟨s, h, hst, .inr ⟨rfl, k, rfl, hk, HR.out⟩⟩
  case round =>
    clear h hst HR hk
    obtain ⟨s', h, hst, hc⟩ := hrel
    rcases hc with ⟨rfl, rfl, hk0⟩ | ⟨rfl, f, rfl, hk, hR⟩
    · go_wp2_with fail
      go_end0
      exact ok_post hst h
    · obtain ⟨f, rfl⟩ : ∃ f', f = f' + 1 := ⟨f - 1, by have := h.pos; omega⟩
      have HR := Lib.hid hR
      clear hR
      cases ht1 : takeS b 1 s' with
      | error e0 =>
        have hr := HR.out
        simp only [allS, ht1, Except.bind] at hr
        subst hr
        go_wp2_with fail
        refine (bits_err h (by omega) ht1).mono ?_
        rintro r wx ⟨rfl, hsx⟩
        exact ⟨rfl, wrong_post (hst.trans hsx) rfl⟩
      | ok y =>
        obtain ⟨l, s1⟩ := y
        have hl := takeS_lt ht1
        have hp1 := takeS_pos ht1
        obtain ⟨LV, hLV⟩ : ∃ LV : Bool, ((l : Int) == 1) = LV := ⟨_, rfl⟩
        have HLV := Lib.hid hLV
        go_wp2_with fail
        refine (bits_ok h (by omega) ht1).mono ?_
        rintro r w1 ⟨rfl, h1, hsx⟩
        have hst1 := hst.trans hsx
        clear hsx
        cases ht2 : takeS b 2 s1 with
        | error e0 =>
          have hr := HR.out
          simp only [allS, ht1, ht2, Except.bind] at hr
          subst hr
          go_wp2_with fail
          refine (bits_err h1 (by omega) ht2).mono ?_
          rintro r wx ⟨rfl, hsx⟩
          exact ⟨rfl, wrong_post (hst1.trans hsx) rfl⟩
        | ok y =>
          obtain ⟨k2, s2⟩ := y
          have hk2 := takeS_lt ht2
          have hp2 := takeS_pos ht2
          go_wp2_with fail
          refine (bits_ok h1 (by omega) ht2).mono ?_
          rintro r w2 ⟨rfl, h2, hsx⟩
          have hst2 := hst1.trans hsx
          have hr := HR.out
          rw [allS, ht1] at hr
          have hr : (takeS b 2 s1).bind _ = R := hr
          rw [ht2] at hr
          replace HR := Lib.hid (show ((blockS b most k2 s2).bind fun s => if l = 1 then .ok s else allS b most f s) = R from hr)
          clear hr hsx hst1 hst h1 h ht1 ht2
          have hk4 : k2 < 4 := by simpa using hk2
          clear hk2
          have hke : k2 = 0 ∨ k2 = 1 ∨ k2 = 2 ∨ k2 = 3 := by omega
          clear hk4
          rcases hke with hk | hk | hk | hk
          · subst hk
            have hr := HR.out
            rw [blockS_0] at hr
            cases hb : storedS b most s2 with
            | error e0 =>
              rw [hb] at hr
              have hr : Except.error e0 = R := hr
              subst hr
              go_wp2_with fail

              have hcf := stored_calls _ p v0 b most s2 h2
              rw [hb] at hcf
              refine hcf.mono ?_
              clear hcf

              rintro r w3 ⟨hs3, hwr⟩
              unfold Wrong at hwr
              subst hwr
              exact ⟨rfl, wrong_post (hst2.trans hs3) rfl⟩
            | ok s3 =>
              rw [hb] at hr
              have hp3 := blockS_pos ((blockS_0 b most s2).trans hb)
              have hr : (if l = 1 then Except.ok s3 else allS b most f s3) = R := hr
              go_wp2_with fail

              have hcf := stored_calls _ p v0 b most s2 h2
              rw [hb] at hcf
              refine hcf.mono ?_
              clear hcf

              rintro r w3 ⟨hs3, rfl, h3⟩
              go_wp2_with fail
              go_roundg (f + 1)
              case measure => omega
              case rel =>
                cases hl1 : LV
                · exact ⟨s3, h3, (hst2.trans hs3), .inr ⟨rfl, f, rfl, by omega, by rw [if_neg (fun e => by have := HLV.out; subst e; rw [hl1] at this; cases this)] at hr; exact hr⟩⟩
                · exact ⟨s3, h3, (hst2.trans hs3), .inl ⟨rfl, by rw [if_pos (by have := HLV.out; rw [hl1] at this; have := eq_of_beq this; omega)] at hr; exact hr.symm, by omega⟩⟩
          · subst hk
            have hr := HR.out
            rw [blockS_1] at hr
            cases hb : codedP b most fixedSy fixedDi s2 with
            | error e0 =>
              rw [hb] at hr
              have hr : Except.error e0 = R := hr
              subst hr
              go_wp2_with fail
              refine (fixed_calls _).mono ?_
              rintro r wf ⟨g1, g2, rfl, hg1, hg2, _, hb1, hb2, hbel⟩
              have hs1 := Sees.ofArr hb1
              have hs2 := Sees.ofArr hb2
              rw [fixed_ints1] at hs1
              rw [fixed_ints2] at hs2
              have hf := h2.keep hbel
              have hstf : Wf.Step p TS w wf := hst2.trans (Step.ofBelow hbel)
              clear hb1 hb2 hbel hst2 h2
              go_wp2_with fail
              have hcf := coded_calls wf p v0 b most s2 (some ⟨g1, 0, none⟩) (some ⟨g2, 0, none⟩) 288 30 fixedSy fixedDi hf hs1 hs2 (by rw [fixed_len1]; omega) (by rw [fixed_len2]; omega)
              rw [fixed_len1, fixed_len2] at hcf
              rw [hb] at hcf
              refine hcf.mono ?_
              clear hcf

              rintro r w3 ⟨hs3, hwr⟩
              unfold Wrong at hwr
              subst hwr
              exact ⟨rfl, wrong_post (hstf.trans hs3) rfl⟩
            | ok s3 =>
              rw [hb] at hr
              have hp3 := blockS_pos ((blockS_1 b most s2).trans hb)
              have hr : (if l = 1 then Except.ok s3 else allS b most f s3) = R := hr
              go_wp2_with fail
              refine (fixed_calls _).mono ?_
              rintro r wf ⟨g1, g2, rfl, hg1, hg2, _, hb1, hb2, hbel⟩
              have hs1 := Sees.ofArr hb1
              have hs2 := Sees.ofArr hb2
              rw [fixed_ints1] at hs1
              rw [fixed_ints2] at hs2
              have hf := h2.keep hbel
              have hstf : Wf.Step p TS w wf := hst2.trans (Step.ofBelow hbel)
              clear hb1 hb2 hbel hst2 h2
              go_wp2_with fail
              have hcf := coded_calls wf p v0 b most s2 (some ⟨g1, 0, none⟩) (some ⟨g2, 0, none⟩) 288 30 fixedSy fixedDi hf hs1 hs2 (by rw [fixed_len1]; omega) (by rw [fixed_len2]; omega)
              rw [fixed_len1, fixed_len2] at hcf
              rw [hb] at hcf
              refine hcf.mono ?_
              clear hcf

              rintro r w3 ⟨hs3, rfl, h3⟩
              go_wp2_with fail
              go_roundg (f + 1)
              case measure => omega
              case rel =>
                cases hl1 : LV
                · exact ⟨s3, h3, (hstf.trans hs3), .inr ⟨rfl, f, rfl, by omega, by rw [if_neg (fun e => by have := HLV.out; subst e; rw [hl1] at this; cases this)] at hr; exact hr⟩⟩
                · exact ⟨s3, h3, (hstf.trans hs3), .inl ⟨rfl, by rw [if_pos (by have := HLV.out; rw [hl1] at this; have := eq_of_beq this; omega)] at hr; exact hr.symm, by omega⟩⟩
          · subst hk
            have hr := HR.out
            rw [blockS_2] at hr
            cases hb : dynS b most s2 with
            | error e0 =>
              rw [hb] at hr
              have hr : Except.error e0 = R := hr
              subst hr
              go_wp2_with fail

              have hcf := dynamic_calls _ p v0 b most s2 h2
              rw [hb] at hcf
              refine hcf.mono ?_
              clear hcf

              rintro r w3 ⟨hs3, hwr⟩
              unfold Wrong at hwr
              subst hwr
              exact ⟨rfl, wrong_post (hst2.trans hs3) rfl⟩
            | ok s3 =>
              rw [hb] at hr
              have hp3 := blockS_pos ((blockS_2 b most s2).trans hb)
              have hr : (if l = 1 then Except.ok s3 else allS b most f s3) = R := hr
              go_wp2_with fail

              have hcf := dynamic_calls _ p v0 b most s2 h2
              rw [hb] at hcf
              refine hcf.mono ?_
              clear hcf

              rintro r w3 ⟨hs3, rfl, h3⟩
              go_wp2_with fail
              go_roundg (f + 1)
              case measure => omega
              case rel =>
                cases hl1 : LV
                · exact ⟨s3, h3, (hst2.trans hs3), .inr ⟨rfl, f, rfl, by omega, by rw [if_neg (fun e => by have := HLV.out; subst e; rw [hl1] at this; cases this)] at hr; exact hr⟩⟩
                · exact ⟨s3, h3, (hst2.trans hs3), .inl ⟨rfl, by rw [if_pos (by have := HLV.out; rw [hl1] at this; have := eq_of_beq this; omega)] at hr; exact hr.symm, by omega⟩⟩
          · subst hk
            have hr := HR.out
            rw [blockS_3] at hr
            have hr : Except.error 8 = R := hr
            subst hr
            go_wp2_with fail
            refine (must_bad _).mono ?_
            rintro r wx ⟨rfl, rfl⟩
            exact ⟨rfl, wrong_post hst2 rfl⟩
end Go.Proofs.Ytkdjljnplfempaa
