/- WALKS, K20: the law WorkBack. -/
import Derived.Test.YtogallppofinhaaGreatDoorK14
import Derived.Test.YtogallppofinhaaGreatDoorK18
namespace Go.Nest
open Go Go.AM Go.Proofs
open Go.Proofs.YtogallppofinhaaGreatDoor (tab tabOk)
set_option linter.unusedVariables false
set_option linter.unusedSimpArgs false
set_option maxRecDepth 4000
theorem ws0_back : WI2 ws0.L ws0.l := ⟨fun x h => (by cases h), CInv.nil⟩
def encDs (x : List Dc) : List C := [.ls 2 Dc encDc x]
/-- where the law stands: one's work, the other's, what lay there when it was committed -/
structure BS where
  i : Nat
  s : WS
  r : WS
  docs : List (List Dc)
structure BInv (l : List Ws) (b : BS) : Prop where
  i : b.i ≤ l.length
  s : WInv b.s
  s2 : WI2 b.s.L b.s.l
  had : Hads b.s.L b.s.made b.docs
  r : WInv b.r
  m : b.s.made.length ≤ b.i
set_option maxHeartbeats 1000000 in
theorem workBack_spec (l : List Ws) (k : Int) (hl : WsFit l) : Does Tryz.prog 3 [.c (.ls 7 Ws encWs l), .c (.int .i64 k)] [] (Rt (.c (.bool true)) []) := by
  refine X_spec (n := 234) (n0 := 0) tabOk Tryz.call3 Tryz.func3 ?_
  intro hb; have hb : l.length ≤ 9223372036854775807 := hb.1.1
  (conv => whnf)
  refine cl [] [] (workBegun_spec) ?_
  (conv => whnf)
  refine cl [] [] (greatWork_spec l hl) ?_
  cases hg : greatW l with
  | true =>
    (conv => whnf)
    exact rtB rfl
  | false =>
  obtain ⟨hlen, hpath⟩ := greatW_ok hg
  (conv => whnf)
  refine cl [] [] (newPair_spec) ?_
  (conv => whnf)
  refine lp BS (fun b => ⟨[(0, .c (.ls 7 Ws encWs l)), (1, .c (.int .i64 k)), (5, .c (.ptr 0 0)), (6, .c (.rw 10)), (7, .c (.int .i64 b.i))], [.box [.ptr 2 0, .ptr 1 0, .ptr 5 0, .rw 9], .box [.ptr 2 0, .rw 4, .int .i64 b.s.h], .box [.rw 3], .row 6 Ob encOb b.s.L, .row 5 It encIt b.s.l, .box [.ptr 6 0, .rw 8, .int .i64 b.r.h], .box [.rw 7], .row 6 Ob encOb b.r.L, .row 5 It encIt b.r.l, .row 1 Int encI b.s.made, .row 1 (List Dc) encDs b.docs]⟩) (fun b => BInv l b ∧ True) (fun b => l.length - b.i) ⟨0, ws0, ws0, []⟩ [] [.same 0, .same 1, .same 2, .same 3, .same 4, .same 5, .same 6, .same 7, .same 8, .same 9, .new] ?_ ?_ (fun ⟨i, s, r, docs⟩ hi => ?_)
  · exact ⟨⟨Nat.zero_le _, ws0_inv, ws0_back, .nil _, ws0_inv, Nat.le_refl _⟩, trivial⟩
  · repeat' first | exact trivial | exact rfl | refine And.intro ?_ ?_
  obtain ⟨⟨hi, hs, hs2, hd, hr, hm⟩, -⟩ := hi
  dsimp only at hi hs hs2 hd hr hm
  have hdl := hd.1
  (conv => whnf)
  refine dec (fun h4 => ?_) (fun h4 => ?_)
  · have hlt : i < l.length := by have h4 : (i : Int) < l.length := h4; omega
    have hiy : l[i]? = some l[i] := List.getElem?_eq_getElem hlt
    have b1 := hpath _ (List.getElem_mem hlt)
    generalize l[i] = x at *
    have p1 := step2_spec s r x hs hr (by omega) (by omega)
    obtain ⟨hs', hm', -⟩ := step_inv hs x
    have hs2' := step_wi hs hs2 x
    have hr' := stepR_inv (s := s) hr x
    obtain ⟨B1, B2⟩ := step_back hs hs2 hd x
    generalize stepW s x = s' at *
    generalize stepR s r x = r' at *
    generalize stepB s r x = sb at *
    obtain ⟨L', l', h', made'⟩ := s'
    dsimp only at hs2' hm' B1 B2
    have hp' := hs'.paths
    have hl0 := hs.ok.len
    have hb0 := hs.bytes
    have hl' := hs'.ok.len
    have hb' := hs'.bytes
    have pc := clean_wspec L' hs'.pool l' h' hp' hl'
    dsimp only at hp' hl' hb'
    (conv => whnf)
    refine ⟨false, .grow, (.l [0, 1, 2, 3, 5, 6, 7, 8, 10, 11, 12, 13, 14, 4, 9, 15, 16, 17]), by kernel_rfl, .inl ?_⟩
    (conv => whnf)
    refine cl [] [] (docs_wspec s.L s.l s.h hl0 hb0) ?_
    (conv => whnf)
    refine cl [] [] (head_wspec s.L s.l s.h) ?_
    (conv => whnf)
    refine ⟨i, x, rfl, hiy, ?_⟩
    (conv => whnf)
    refine cl [] [0, 1, 2, 3, 4, 5, 6, 7, 8, 9] (p1) ?_
    (conv => whnf)
    rcases B1 with ⟨m1, m2⟩ | ⟨m1, m2, m3, m4, m5⟩
    · subst m1
      refine dec (fun q => ?_) (fun q => ?_)
      · exfalso; have q : (s.made.length : Int) < s.made.length := q; omega
      (conv => whnf)
      refine ⟨i, x, rfl, hiy, ?_⟩
      (conv => whnf)
      refine dec (fun q4 => ?_) (fun q4 => ?_)
      · (conv => whnf)
        refine cl [] [] (head_wspec L' l' h') ?_
        (conv => whnf)
        refine dec (fun q5 => ?_) (fun q5 => ?_)
        · obtain ⟨n1, n2, n3⟩ := look_inv hs' hs2' m2
          dsimp only at n1 n2 n3
          have B2 := B2 q4
          generalize cleanW L' l' h' = cc at *
          generalize (treeW L' l').2.2 = L3 at *
          (conv => whnf)
          refine cl [] [1, 2, 12, 13] (pc) ?_
          (conv => whnf)
          refine dec (fun q6 => ?_) (fun q6 => ?_)
          · obtain rfl : l' = s.l := B2.resolve_right (by have q6 : cc = 13 := q6; omega)
            (conv => whnf)
            refine cl [] [] (docs_wspec L3 s.l h' hl' hb') ?_
            (conv => whnf)
            refine cl [] [] (sameDocs_spec (s.l.map docW)) ?_
            repeat' ((conv => whnf); first | (refine dec (fun h => ?_) (fun h => ?_) <;> try contradiction) | (refine decN (fun h => ?_) (fun h => ?_) <;> try contradiction) | refine booN (fun h => ?_) (fun h => ?_) | refine boo (fun h => ?_) (fun h => ?_) | refine ⟨i64 (by omega) (by omega), ?_⟩ | refine ⟨_, _, rfl, List.getElem?_eq_getElem (by omega), ?_⟩ | refine ⟨_, ⟨rfl, by omega⟩, ?_⟩ | refine ⟨_, List.getElem?_eq_getElem (by omega), ?_⟩ | refine rtB ?_ | refine rtI ?_ | refine rtC ?_ rfl | fail)
            refine ag ⟨i + 1, ⟨L3, s.l, h', s.made⟩, r', docs⟩ [] [.same 0, .same 1, .same 2, .same 17, .same 18, .same 5, .same 6, .same 14, .same 15, .same 16, .same 10] ⟨⟨hlt, n1, n2, n3, hr', by show s.made.length ≤ i + 1; omega⟩, trivial⟩ (by simp only []; omega) ?_
            repeat' first | exact trivial | exact rfl | refine And.intro ?_ ?_
          · repeat' ((conv => whnf); first | (refine dec (fun h => ?_) (fun h => ?_) <;> try contradiction) | (refine decN (fun h => ?_) (fun h => ?_) <;> try contradiction) | refine booN (fun h => ?_) (fun h => ?_) | refine boo (fun h => ?_) (fun h => ?_) | refine ⟨i64 (by omega) (by omega), ?_⟩ | refine ⟨_, _, rfl, List.getElem?_eq_getElem (by omega), ?_⟩ | refine ⟨_, ⟨rfl, by omega⟩, ?_⟩ | refine ⟨_, List.getElem?_eq_getElem (by omega), ?_⟩ | refine rtB ?_ | refine rtI ?_ | refine rtC ?_ rfl | fail)
            refine ag ⟨i + 1, ⟨L3, l', h', s.made⟩, r', docs⟩ [] [.same 0, .same 1, .same 2, .same 17, .same 18, .same 5, .same 6, .same 14, .same 15, .same 16, .same 10] ⟨⟨hlt, n1, n2, n3, hr', by show s.made.length ≤ i + 1; omega⟩, trivial⟩ (by simp only []; omega) ?_
            repeat' first | exact trivial | exact rfl | refine And.intro ?_ ?_
        · repeat' ((conv => whnf); first | (refine dec (fun h => ?_) (fun h => ?_) <;> try contradiction) | (refine decN (fun h => ?_) (fun h => ?_) <;> try contradiction) | refine booN (fun h => ?_) (fun h => ?_) | refine boo (fun h => ?_) (fun h => ?_) | refine ⟨i64 (by omega) (by omega), ?_⟩ | refine ⟨_, _, rfl, List.getElem?_eq_getElem (by omega), ?_⟩ | refine ⟨_, ⟨rfl, by omega⟩, ?_⟩ | refine ⟨_, List.getElem?_eq_getElem (by omega), ?_⟩ | refine rtB ?_ | refine rtI ?_ | refine rtC ?_ rfl | fail)
          refine ag ⟨i + 1, ⟨L', l', h', s.made⟩, r', docs⟩ [] [.same 0, .same 1, .same 2, .same 12, .same 13, .same 5, .same 6, .same 14, .same 15, .same 16, .same 10] ⟨⟨hlt, hs', hs2', m2, hr', by show s.made.length ≤ i + 1; omega⟩, trivial⟩ (by simp only []; omega) ?_
          repeat' first | exact trivial | exact rfl | refine And.intro ?_ ?_
      · repeat' ((conv => whnf); first | (refine dec (fun h => ?_) (fun h => ?_) <;> try contradiction) | (refine decN (fun h => ?_) (fun h => ?_) <;> try contradiction) | refine booN (fun h => ?_) (fun h => ?_) | refine boo (fun h => ?_) (fun h => ?_) | refine ⟨i64 (by omega) (by omega), ?_⟩ | refine ⟨_, _, rfl, List.getElem?_eq_getElem (by omega), ?_⟩ | refine ⟨_, ⟨rfl, by omega⟩, ?_⟩ | refine ⟨_, List.getElem?_eq_getElem (by omega), ?_⟩ | refine rtB ?_ | refine rtI ?_ | refine rtC ?_ rfl | fail)
        refine ag ⟨i + 1, ⟨L', l', h', s.made⟩, r', docs⟩ [] [.same 0, .same 1, .same 2, .same 12, .same 13, .same 5, .same 6, .same 14, .same 15, .same 16, .same 10] ⟨⟨hlt, hs', hs2', m2, hr', by show s.made.length ≤ i + 1; omega⟩, trivial⟩ (by simp only []; omega) ?_
        repeat' first | exact trivial | exact rfl | refine And.intro ?_ ?_
    · subst m1
      subst m3
      obtain ⟨n1, n2, n3⟩ := look_inv hs' hs2' m2
      dsimp only at n1 n2 n3
      rw [m4] at pc
      generalize (treeW L' s.l).2.2 = L3 at *
      refine dec (fun q => ?_) (fun q => ?_)
      · (conv => whnf)
        refine cl [] [] (docs_wspec L' s.l h' hl' hb') ?_
        (conv => whnf)
        refine ⟨[s.l.map docW], rfl, ?_⟩
        (conv => whnf)
        refine ⟨_, _, rfl, rfl, (by simp only [List.length_append, List.length_cons, List.length_nil]; omega), ?_⟩
        (conv => whnf)
        refine cl [] [1, 2, 12, 13] (pc) ?_
        (conv => whnf)
        refine ⟨false, .grow, (.l [0, 1, 2, 3, 4, 5, 6, 7, 8, 9, 10, 12, 13, 14, 15, 16, 17, 18, 11, 19, 20, 21, 22, 23, 24, 25, 26, 27, 28, 29, 30]), by kernel_rfl, .inl ?_⟩
        (conv => whnf)
        refine ⟨s.made.length, ⟨rfl, by simp⟩, ?_⟩
        (conv => whnf)
        refine ⟨h', by simp, ?_⟩
        (conv => whnf)
        refine cl [] [] (head_wspec L3 s.l h') ?_
        (conv => whnf)
        refine decN (fun h => absurd rfl h) (fun _ => ?_)
        (conv => whnf)
        refine cl [] [] (docs_wspec L3 s.l h' hl' hb') ?_
        (conv => whnf)
        refine cl [] [] (sameDocs_spec (s.l.map docW)) ?_
        (conv => whnf)
        refine ⟨i, x, rfl, hiy, ?_⟩
        (conv => whnf)
        refine dec (fun q4 => ?_) (fun _ => ?_)
        · exfalso; have q4 : x.what = 4 := q4; omega
        repeat' ((conv => whnf); first | (refine dec (fun h => ?_) (fun h => ?_) <;> try contradiction) | (refine decN (fun h => ?_) (fun h => ?_) <;> try contradiction) | refine booN (fun h => ?_) (fun h => ?_) | refine boo (fun h => ?_) (fun h => ?_) | refine ⟨i64 (by omega) (by omega), ?_⟩ | refine ⟨_, _, rfl, List.getElem?_eq_getElem (by omega), ?_⟩ | refine ⟨_, ⟨rfl, by omega⟩, ?_⟩ | refine ⟨_, List.getElem?_eq_getElem (by omega), ?_⟩ | refine rtB ?_ | refine rtI ?_ | refine rtC ?_ rfl | fail)
        refine ag ⟨i + 1, ⟨L3, s.l, h', s.made ++ [h']⟩, r', docs ++ [s.l.map docW]⟩ [] [.same 0, .same 1, .same 2, .same 20, .same 21, .same 5, .same 6, .same 14, .same 15, .same 16, .same 19] ⟨⟨hlt, n1, n2, n3, hr', by show (s.made ++ [h']).length ≤ i + 1; simp; omega⟩, trivial⟩ (by simp only []; omega) ?_
        repeat' first | exact trivial | exact rfl | refine And.intro ?_ ?_
      · exfalso; apply q; show (s.made.length : Int) < (s.made ++ [h']).length; rw [List.length_append, List.length_singleton]; omega
  · have hp := hs.paths
    have hlw := hs.ok.len
    have pc := clean_wspec s.L hs.pool s.l s.h hp hlw
    obtain ⟨n1, n2, n3⟩ := look_inv hs hs2 hd
    have st := fun hc => clean_still hs.pool hs.head hc (treeW s.L s.l).2.2 n1.pool (List.prefix_refl _)
    have hml : s.made.length ≤ 50 := by omega
    clear hs2 hd hr hi h4
    obtain ⟨L, l', h', made⟩ := s
    dsimp only at hml hdl hp hlw n1 n2 n3 st pc
    generalize cleanW L l' h' = cc at *
    generalize (treeW L l').2.2 = L1 at *
    obtain ⟨n3, n4⟩ := n3
    (conv => whnf)
    refine dec (fun q => ?_) (fun q => ?_)
    · (conv => whnf)
      exact rtB rfl
    have q : ¬ (made.length : Int) = 0 := q
    have hne : made.length ≠ 0 := by omega
    (conv => whnf)
    refine cl [] [1, 2, 3, 4] (pc) ?_
    (conv => whnf)
    refine decN (fun q2 => ?_) (fun q2 => ?_)
    · (conv => whnf)
      exact rtB rfl
    have st := st q2
    (conv => whnf)
    refine ⟨false, .grow, (.l [0, 1, 2, 3, 4, 5, 6, 7, 8, 9, 10, 11, 12, 13, 14, 15, 16, 17]), by kernel_rfl, .inl ?_⟩
    (conv => whnf)
    refine ⟨wrapU_ne hne (show made.length ≤ 9223372036854775807 by omega), ?_⟩
    (conv => whnf)
    obtain ⟨a, r1, r2⟩ : ∃ a : Nat, IntKind.i64.wrap ((IntKind.u64.wrap k).tmod (IntKind.u64.wrap made.length)) = (a : Int) ∧ a < made.length := ⟨_, round_at (k := k) (n := made.length) hne (by omega)⟩
    refine ⟨(show NB.I64 ((made.length : Int) - 1) from i64 (by omega) (by omega)), ?_⟩
    have da := n4 a r2 (by omega)
    have hga : made[a]? = some made[a] := List.getElem?_eq_getElem r2
    have hgd : docs[a]? = some docs[a] := List.getElem?_eq_getElem (by omega)
    have hb2 : made.length - 1 < made.length := by omega
    have db := n4 (made.length - 1) hb2 (by omega)
    have hgb : made[made.length - 1]? = some made[made.length - 1] := List.getElem?_eq_getElem hb2
    have hge : docs[made.length - 1]? = some docs[made.length - 1] := List.getElem?_eq_getElem (by omega)
    have hz2 : (made.length : Int) - 1 = ((made.length - 1 : Nat) : Int) := by omega
    have hb3 : made.length - 1 < docs.length := by omega
    have ha3 : a < docs.length := by omega
    generalize made[a] = ma at *
    generalize docs[a] = xa at *
    generalize made[made.length - 1] = mb at *
    generalize docs[made.length - 1] = xb at *
    generalize made.length - 1 = b at *
    clear n4
    obtain ⟨e1, e2, e3, e4, e5, e6, e7⟩ := co_had n1.pool st da
    have c1 := checkout_wspec L1 n1.pool l' h' hp hlw ma
    rw [e1, e2, e4] at c1
    generalize coW L1 l' h' ma = l2 at *
    have hp2 := (⟨n1.pool, e6, e7, .inr da.1⟩ : WInv ⟨L1, l2, ma, []⟩).paths
    have d1 := docs_wspec L1 l2 ma e6.len e7
    rw [e3] at d1
    obtain ⟨g1, g2, g3, g4, g5, g6, g7⟩ := co_had n1.pool e5 db
    have c2 := checkout_wspec L1 n1.pool l2 ma hp2 e6.len mb
    rw [g1, g2, g4] at c2
    generalize coW L1 l2 ma mb = l3 at *
    have hp3 := (⟨n1.pool, g6, g7, .inr db.1⟩ : WInv ⟨L1, l3, mb, []⟩).paths
    have d2 := docs_wspec L1 l3 mb g6.len g7
    rw [g3] at d2
    have c3 := clean_wspec L1 n1.pool l3 mb hp3 g6.len
    rw [g5.2.2] at c3
    (conv => whnf)
    refine ⟨false, .grow, (.l [0, 1, 2, 3, 4, 5, 6, 7, 8, 9, 10, 11, 12, 13, 14, 15, 16, 17, 19, 20, 21, 22, 18, 23, 24, 25, 26, 27, 28, 29, 30, 32, 33, 34, 35, 36, 37, 38, 31, 39, 40]), by kernel_rfl, .inl ?_⟩
    (conv => whnf)
    refine ⟨a, ⟨r1, r2⟩, ?_⟩
    (conv => whnf)
    refine ⟨ma, hga, ?_⟩
    (conv => whnf)
    refine cl [] [1, 2, 11, 12] (c1) ?_
    (conv => whnf)
    refine ⟨a, ⟨r1, ha3⟩, ?_⟩
    (conv => whnf)
    refine ⟨xa, hgd, ?_⟩
    (conv => whnf)
    refine cl [] [] (d1) ?_
    (conv => whnf)
    refine cl [] [] (sameDocs_spec xa) ?_
    (conv => whnf)
    refine ⟨a, ⟨r1, r2⟩, ?_⟩
    (conv => whnf)
    refine ⟨ma, hga, ?_⟩
    (conv => whnf)
    refine cl [] [] (head_wspec L1 l2 ma) ?_
    (conv => whnf)
    refine decN (fun h => absurd rfl h) (fun _ => ?_)
    (conv => whnf)
    refine ⟨false, .grow, (.l [0, 1, 2, 3, 4, 5, 6, 7, 8, 9, 10, 11, 12, 13, 14, 15, 16, 17, 19, 20, 21, 22, 18, 23, 24, 25, 26, 27, 28, 29, 30, 31, 32, 33]), by kernel_rfl, .inl ?_⟩
    (conv => whnf)
    refine ⟨b, ⟨hz2, hb2⟩, ?_⟩
    (conv => whnf)
    refine ⟨mb, hgb, ?_⟩
    (conv => whnf)
    refine cl [] [1, 2, 13, 14] (c2) ?_
    (conv => whnf)
    refine ⟨b, ⟨hz2, hb3⟩, ?_⟩
    (conv => whnf)
    refine ⟨xb, hge, ?_⟩
    (conv => whnf)
    refine cl [] [] (d2) ?_
    (conv => whnf)
    refine cl [] [] (sameDocs_spec xb) ?_
    (conv => whnf)
    refine cl [] [1, 2, 16, 17] (c3) ?_
    (conv => whnf)
    exact rtB rfl
end Go.Nest
