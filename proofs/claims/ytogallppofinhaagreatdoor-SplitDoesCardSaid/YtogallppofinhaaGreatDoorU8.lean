/- WALKS, U7: the history of a directory alone, by the document. -/
import Derived.Test.YtogallppofinhaaGreatDoorU3
import Derived.Test.YtogallppofinhaaGreatDoorW5
import Derived.Test.YtogallppofinhaaGreatDoorU0
import Derived.Test.YtogallppofinhaaGreatDoorU4
import Derived.Test.YtogallppofinhaaGreatDoorW6
import Derived.Test.YtogallppofinhaaGreatDoorU6
section
namespace Go.Nest
open Go Go.AM Go.Proofs
open Go.Proofs.YtogallppofinhaaGreatDoor (tab tabOk)
set_option linter.unusedVariables false
set_option linter.unusedSimpArgs false
set_option maxRecDepth 4000
/-- images looked for by place -/
def scan (im : List (List Int)) (k : Int) (out : List Int) (l : List Int) : List Int := l.foldl (fun out x => if x = k then (imA im x).foldl addI out else out) out
theorem scan_none {im : List (List Int)} {k : Int} : ∀ {l out : List Int}, k ∉ l → scan im k out l = out
  | [], out, _ => rfl
  | x :: l, out, h => by
    unfold scan
    rw [List.foldl_cons, if_neg (fun e => h (by simp [e]))]
    exact scan_none (fun hm => h (by simp [hm]))
theorem scan_one {im : List (List Int)} {k : Int} : ∀ {l out : List Int}, l.Nodup → k ∈ l → scan im k out l = (imA im k).foldl addI out
  | x :: l, out, hn, h => by
    rw [List.nodup_cons] at hn
    unfold scan
    rw [List.foldl_cons]
    by_cases e : x = k
    · subst e
      rw [if_pos rfl]
      exact scan_none hn.1
    · rw [if_neg e]
      rcases List.mem_cons.1 h with h | h
      · exact absurd h.symm e
      · exact scan_one hn.2 h
theorem scan_take {im : List (List Int)} {k : Int} {out l : List Int} {j : Nat} (h : j < l.length) : scan im k out (l.take (j + 1)) = if l[j] = k then (imA im l[j]).foldl addI (scan im k out (l.take j)) else scan im k out (l.take j) := by
  unfold scan
  rw [List.take_succ_eq_append_getElem h, List.foldl_append]; rfl
structure AlI (L : List Ob) (dir : List UInt8) (line : List Int) (i : Nat) (M : List Ob) (im im2 : List (List Int)) : Prop where
  sp : SpI L dir line i M im
  len : im2.length = line.length
  pos : ∀ (j : Nat) (h : j < line.length), j < i → im2[j]? = some (imA im line[j])
theorem al_step {L : List Ob} {dir : List UInt8} {line : List Int} {i : Nat} {M : List Ob} {im im2 : List (List Int)} (h : AlI L dir line i M im im2) (hlt : i < line.length) (hkl : Coms L line) (hnd : line.Nodup) {v : List Int} {M' : List Ob} (hR : imS M dir im line[i] = (v, 0, M')) :
    AlI L dir line (i + 1) M' (im.set line[i].toNat v) (im2.set i v) := by
  obtain ⟨⟨hi, hM, hx, him, hml, hfl, heq⟩, hil, hpos⟩ := h
  have hft := imp_fit hM hfl him
  obtain ⟨q1, q2, -⟩ := imO_ok hM (dir := dir) (up := upO im (getP M line[i]).parents) (o := getP M line[i])
  have q4 := imO_coms hM (dir := dir) (up := upO im (getP M line[i]).parents) (o := getP M line[i]) him.up
  have q5 := imO_len (L := M) (dir := dir) (o := getP M line[i]) (up_len hft (getP M line[i]).parents).2.1
  rw [List.drop_eq_getElem_cons hlt, splG_cons, hR, if_neg (fun h => h rfl)] at heq
  have hR : imO M dir (upO im (getP M line[i]).parents) (getP M line[i]) = (v, 0, M') := hR
  rw [hR] at q1 q2 q4 q5
  have hz := hkl _ (List.getElem_mem hlt)
  have hz := kindOf_pos (l := L) (id := line[i]) (by omega)
  refine ⟨⟨hlt, q1, hx.trans q2, ImP.put (him.mono fun y hy => by rw [ext_kind q2 (by omega)]; exact hy) (q4 rfl), by rw [List.length_set]; exact hml, hfl.put q5, heq⟩, by rw [List.length_set]; exact hil, fun j hj hji => ?_⟩
  rw [List.getElem?_set]
  have hy := hkl _ (List.getElem_mem hj)
  have hy := kindOf_pos (l := L) (id := line[j]) (by omega)
  by_cases e : i = j
  · subst e
    rw [if_pos rfl, if_pos (by omega)]
    unfold imA
    rw [List.getElem?_set, if_pos rfl, if_pos (by omega)]; rfl
  · rw [if_neg e, hpos j hj (by omega)]
    unfold imA
    rw [List.getElem?_set, if_neg]
    intro h
    have : line[i] = line[j] := by omega
    exact e ((List.getElem_inj hnd).1 this)
theorem scan_fit {im : List (List Int)} (hi : Fit im) {k : Int} : ∀ {l out : List Int}, out.Nodup → (∀ x ∈ out, 0 ≤ x ∧ x < (600 : Nat)) → (scan im k out l).Nodup ∧ ∀ x ∈ scan im k out l, 0 ≤ x ∧ x < (600 : Nat)
  | [], out, h1, h2 => ⟨h1, h2⟩
  | x :: l, out, h1, h2 => by
    unfold scan
    rw [List.foldl_cons]
    by_cases e : x = k
    · rw [if_pos e]
      obtain ⟨a, b⟩ := add_ok h1 h2 (hi.all x)
      exact scan_fit hi a b
    · rw [if_neg e]
      exact scan_fit hi h1 h2
set_option maxHeartbeats 20000000 in
theorem alone_spec (L : List Ob) (hL : PoolOk L) (id : Int) (dir : List UInt8) (hd : dir.length ≤ 4000000) : Does Tryz.prog 75 [.c (.ptr 0 0), .c (.int .i64 id), .c (.str dir)] [.box [.rw 1], .row 6 Ob encOb L] (Rt (.tup [(false, [.int .i64 (splitF L id dir).1]), (false, [.int .i64 (splitF L id dir).2.1])]) [.box [.rw 2], .dead, .row 6 Ob encOb (splitF L id dir).2.2]) := by
  refine X_spec (n := 173) (n0 := 2) tabOk Tryz.call75 Tryz.func75 ?_
  intro hb
  have hlen := hL.len
  have ha := line_spec L hL id
  (conv => whnf)
  refine cl [] [] (ha) ?_
  by_cases hk : kindOf L id = 3
  · have e0 : ancP L id = (ancL L id, 0) := if_pos hk
    have hkl : Coms L (ancL L id) := fun y hy => ((mem_anc hL hk).1 hy).kind hL hk
    have hlc : (ancL L id).length ≤ L.length := anc_len
    have hris : (ancL L id).Pairwise (· < ·) := anc_rise
    have hcl : ∀ y ∈ ancL L id, ∀ k ∈ (getP L y).parents, k ∈ ancL L id := fun y hy k hk2 => (mem_anc hL hk).2 (((mem_anc hL hk).1 hy).next hk2)
    obtain ⟨hl0, hll⟩ := anc_last hL hk
    have hF : splitF L id dir = if (splG dir (ancL L id) L (List.replicate L.length [])).1 ≠ 0 then (0, (splG dir (ancL L id) L (List.replicate L.length [])).1, (splG dir (ancL L id) L (List.replicate L.length [])).2.1) else
        ((oneO (imA (splG dir (ancL L id) L (List.replicate L.length [])).2.2 id)).1, (oneO (imA (splG dir (ancL L id) L (List.replicate L.length [])).2.2 id)).2, (splG dir (ancL L id) L (List.replicate L.length [])).2.1) := by
      unfold splitF; rw [e0, if_neg (by simp)]
    rw [e0]
    generalize ancL L id = line at *
    generalize splitF L id dir = RR at *
    have hnd : line.Nodup := hris.imp fun h e => by omega
    (conv => whnf)
    refine ⟨line.length, [], ⟨rfl, rfl⟩, rfl, (show line.length * 24 ≤ 140737488355328 by omega), ?_⟩
    (conv => whnf)
    refine lp (Nat × List Ob × List (List Int)) (fun p => ⟨[(0, .c (.ptr 0 0)), (2, .c (.str dir)), (8, .c (.rw 3)), (10, .c (.rw 4)), (11, .c (.int .i64 p.1))], [.box [.rw 2], .dead, .row 6 Ob encOb p.2.1, .row 1 Int encI line, .row 1 (List Int) (encL 1 encI) p.2.2]⟩) (fun p => (∃ im, AlI L dir line p.1 p.2.1 im p.2.2) ∧ True) (fun p => line.length - p.1) (0, L, List.replicate line.length []) [] [.same 0, .same 1, .same 1, .same 2, .same 3] ?_ ?_ (fun ⟨i, M, im2⟩ hi => ?_)
    · exact ⟨⟨List.replicate L.length [], ⟨Nat.zero_le _, hL, List.prefix_refl _, ImP.start, List.length_replicate, FitL.start, rfl⟩, List.length_replicate, fun j _ h => absurd h (Nat.not_lt_zero _)⟩, trivial⟩
    · repeat' first | exact trivial | exact rfl | refine And.intro ?_ ?_
    obtain ⟨⟨im, hal⟩, -⟩ := hi
    have hal : AlI L dir line i M im im2 := hal
    have hstep := fun (v : List Int) (M' : List Ob) (h : i < line.length) => al_step (v := v) (M' := M') hal h hkl hnd
    obtain ⟨⟨hi, hM, hx, him, hml, hfl, heq⟩, hil, hpos⟩ := hal
    have hi : i ≤ line.length := hi
    have hft := imp_fit hM hfl him
    (conv => whnf)
    refine dec (fun h4 => ?_) (fun h4 => ?_)
    · have hlt : i < line.length := by have h4 : (i : Int) < line.length := h4; omega
      have hiy : line[i]? = some line[i] := List.getElem?_eq_getElem hlt
      have hkx := hkl _ (List.getElem_mem hlt)
      have hpin : ∀ k ∈ (getP L line[i]).parents, k ∈ line.take i := fun k hk => by
        have h1 := hcl _ (List.getElem_mem hlt) k hk
        have h2 := (par_lt hL hk).2.1
        obtain ⟨j, hj, rfl⟩ := List.mem_iff_getElem.1 h1
        rw [List.mem_take_iff_getElem]
        refine ⟨j, ?_, rfl⟩
        rcases Nat.lt_trichotomy j i with hji | rfl | hji
        · omega
        · omega
        · have := List.pairwise_iff_getElem.1 hris i j hlt hj hji
          omega
      rw [List.drop_eq_getElem_cons hlt] at heq
      have hpx := kindOf_pos (l := L) (id := line[i]) (by omega)
      have hstep := fun v M' => hstep v M' hlt
      generalize hxe : line[i] = x at *
      have hkM : kindOf M x = 3 := by rw [ext_kind hx (by omega)]; exact hkx
      have hpM := kindOf_pos (l := M) (id := x) (by omega)
      have hgM : M[x.toNat]? = some (getP M x) := by rw [getP_at hpM.1 hpM.2]; exact List.getElem?_eq_getElem hpM.2
      have hgx : getP M x = getP L x := ext_get hx (by omega)
      rw [← hgx] at hpin
      have hpl := (hM.get (id := x) (by omega)).parents
      have htr := com_tree hM hkM
      have hos : imS M dir im x = imO M dir (upO im (getP M x).parents) (getP M x) := rfl
      rw [splG_cons, hos] at heq
      rw [hos] at hstep
      generalize getP M x = o at *
      (conv => whnf)
      refine ⟨false, .grow, (.l [0, 1, 2, 3, 4, 5, 6, 7, 8, 9, 10, 11]), by kernel_rfl, .inl ?_⟩
      (conv => whnf)
      refine ⟨i, ⟨rfl, hlt⟩, ?_⟩
      (conv => whnf)
      refine ⟨x, hiy, ?_⟩
      (conv => whnf)
      refine ⟨x.toNat, ⟨by omega, hpM.2⟩, ?_⟩
      (conv => whnf)
      refine ⟨o, hgM, ?_⟩
      (conv => whnf)
      refine lp Nat (fun k => ⟨[(0, .c (.ptr 0 0)), (2, .c (.str dir)), (8, .c (.rw 3)), (10, .c (.rw 4)), (11, .c (.int .i64 i)), (12, .c (.ptr 5 0)), (13, .c (.rw 6)), (14, .c (.int .i64 k))], [.box [.rw 2], .dead, .row 6 Ob encOb M, .row 1 Int encI line, .row 1 (List Int) (encL 1 encI) im2, .box (encOb o), .row 1 Int encI (upO im (o.parents.take k))]⟩) (fun k => k ≤ o.parents.length ∧ True) (fun k => o.parents.length - k) 0 [] [.same 0, .same 1, .same 2, .same 3, .same 4, .same 5, .new] ?_ ?_ (fun k hk => ?_)
      · simp
      · repeat' first | exact trivial | exact rfl | refine And.intro ?_ ?_
      (conv => whnf)
      refine dec (fun h5 => ?_) (fun h5 => ?_)
      · have hkt : k < o.parents.length := by have h5 : (k : Int) < o.parents.length := h5; omega
        have hky : o.parents[k]? = some o.parents[k] := List.getElem?_eq_getElem hkt
        have hst := up_take (im := im) hkt
        have hin := hpin _ (List.getElem_mem hkt)
        obtain ⟨u1, u2, u3⟩ := up_len hft (o.parents.take k)
        generalize upO im (o.parents.take k) = out at hst u1 u2 u3 ⊢
        generalize o.parents[k] = p at hky hst hin
        have hsf := fun l => scan_fit hft (k := p) (l := l) u1 u3
        rw [← scan_one (out := out) (hnd.sublist (List.take_sublist i line)) hin] at hst
        (conv => whnf)
        refine lp Nat (fun j => ⟨[(0, .c (.ptr 0 0)), (2, .c (.str dir)), (8, .c (.rw 3)), (10, .c (.rw 4)), (11, .c (.int .i64 i)), (12, .c (.ptr 5 0)), (13, .c (.rw 6)), (14, .c (.int .i64 k)), (15, .c (.int .i64 j))], [.box [.rw 2], .dead, .row 6 Ob encOb M, .row 1 Int encI line, .row 1 (List Int) (encL 1 encI) im2, .box (encOb o), .row 1 Int encI (scan im p out (line.take j))]⟩) (fun j => j ≤ i ∧ True) (fun j => i - j) 0 [] [.same 0, .same 1, .same 2, .same 3, .same 4, .same 5, .same 6] ?_ ?_ (fun j hj => ?_)
        · simp
        · repeat' first | exact trivial | exact rfl | refine And.intro ?_ ?_
        (conv => whnf)
        refine dec (fun h6 => ?_) (fun h6 => ?_)
        · have hji : j < i := by omega
          have hjl : j < line.length := by omega
          have hjy : line[j]? = some line[j] := List.getElem?_eq_getElem hjl
          have hjx := hpos j hjl hji
          have hj2 : j < im2.length := by omega
          have hs2 := scan_take (im := im) (k := p) (out := out) hjl
          obtain ⟨v1, v2⟩ := hsf (line.take j)
          have w1 := hft.len line[j]
          have w2 := hft.all line[j]
          generalize scan im p out (line.take j) = o2 at hs2 v1 v2 ⊢
          generalize line[j] = z at hjy hjx hs2 w1 w2
          generalize imA im z = xs at hjx hs2 w1 w2
          (conv => whnf)
          refine ⟨false, .grow, (.l [0, 1, 2, 3, 4, 5, 6, 7, 8, 9]), by kernel_rfl, .inl ?_⟩
          (conv => whnf)
          refine ⟨j, ⟨rfl, hjl⟩, ?_⟩
          (conv => whnf)
          refine ⟨z, hjy, ?_⟩
          (conv => whnf)
          refine ⟨k, p, rfl, hky, ?_⟩
          (conv => whnf)
          refine decN (fun h7 => ?_) (fun h7 => ?_)
          · rw [if_neg h7] at hs2
            repeat' ((conv => whnf); first | (refine dec (fun h => ?_) (fun h => ?_) <;> try contradiction) | (refine decN (fun h => ?_) (fun h => ?_) <;> try contradiction) | refine booN (fun h => ?_) (fun h => ?_) | refine boo (fun h => ?_) (fun h => ?_) | refine ⟨i64 (by omega) (by omega), ?_⟩ | refine ⟨_, _, rfl, List.getElem?_eq_getElem (by omega), ?_⟩ | refine ⟨_, ⟨rfl, by omega⟩, ?_⟩ | refine ⟨_, List.getElem?_eq_getElem (by omega), ?_⟩ | refine rtB ?_ | refine rtI ?_ | refine rtC ?_ rfl | fail)
            refine ag (j + 1) [] [.same 0, .same 1, .same 2, .same 3, .same 4, .same 5, .same 6] ⟨hji, trivial⟩ (by simp only []; omega) ?_
            rw [hs2]
            repeat' first | exact trivial | exact rfl | refine And.intro ?_ ?_
          · rw [if_pos h7] at hs2
            (conv => whnf)
            refine lp Nat (fun n => ⟨[(0, .c (.ptr 0 0)), (2, .c (.str dir)), (8, .c (.rw 3)), (10, .c (.rw 4)), (11, .c (.int .i64 i)), (12, .c (.ptr 5 0)), (13, .c (.rw 6)), (14, .c (.int .i64 k)), (15, .c (.int .i64 j)), (16, .c (.int .i64 n))], [.box [.rw 2], .dead, .row 6 Ob encOb M, .row 1 Int encI line, .row 1 (List Int) (encL 1 encI) im2, .box (encOb o), .row 1 Int encI ((xs.take n).foldl addI o2)]⟩) (fun n => n ≤ xs.length ∧ True) (fun n => xs.length - n) 0 [] [.same 0, .same 1, .same 2, .same 3, .same 4, .same 5, .same 6] ?_ ?_ (fun n hn => ?_)
            · simp
            · repeat' first | exact trivial | exact rfl | refine And.intro ?_ ?_
            (conv => whnf)
            refine ⟨j, ⟨rfl, hj2⟩, ?_⟩
            (conv => whnf)
            refine ⟨xs, hjx, ?_⟩
            (conv => whnf)
            refine dec (fun h8 => ?_) (fun h8 => ?_)
            · have hnt : n < xs.length := by omega
              have hny : xs[n]? = some xs[n] := List.getElem?_eq_getElem hnt
              have hs3 := add_take (out := o2) hnt
              obtain ⟨y1, y2⟩ := add_ok (l := xs.take n) v1 v2 (fun x hx => w2 x (List.mem_of_mem_take hx))
              have y3 := nodup_len 600 y1 y2
              generalize (xs.take n).foldl addI o2 = o3 at hs3 y1 y2 y3 ⊢
              generalize xs[n] = y at hny hs3
              (conv => whnf)
              refine ⟨j, ⟨rfl, hj2⟩, ?_⟩
              (conv => whnf)
              refine ⟨xs, hjx, ?_⟩
              (conv => whnf)
              refine ⟨n, y, rfl, hny, ?_⟩
              (conv => whnf)
              refine cl [] [] (in_spec o3 y) ?_
              (conv => whnf)
              refine decN (fun h9 => ?_) (fun h9 => ?_)
              · rw [show addI o3 y = o3 ++ [y] from if_neg h9] at hs3
                (conv => whnf)
                refine ⟨j, ⟨rfl, hj2⟩, ?_⟩
                (conv => whnf)
                refine ⟨xs, hjx, ?_⟩
                (conv => whnf)
                refine ⟨n, y, rfl, hny, ?_⟩
                (conv => whnf)
                refine ⟨[y], rfl, ?_⟩
                (conv => whnf)
                refine ⟨_, _, rfl, rfl, (by simp only [List.length_append, List.length_cons, List.length_nil]; omega), ?_⟩
                repeat' ((conv => whnf); first | (refine dec (fun h => ?_) (fun h => ?_) <;> try contradiction) | (refine decN (fun h => ?_) (fun h => ?_) <;> try contradiction) | refine booN (fun h => ?_) (fun h => ?_) | refine boo (fun h => ?_) (fun h => ?_) | refine ⟨i64 (by omega) (by omega), ?_⟩ | refine ⟨_, _, rfl, List.getElem?_eq_getElem (by omega), ?_⟩ | refine ⟨_, ⟨rfl, by omega⟩, ?_⟩ | refine ⟨_, List.getElem?_eq_getElem (by omega), ?_⟩ | refine rtB ?_ | refine rtI ?_ | refine rtC ?_ rfl | fail)
                refine ag (n + 1) [] [.same 0, .same 1, .same 2, .same 3, .same 4, .same 5, .same 8] ⟨hnt, trivial⟩ (by simp only []; omega) ?_
                rw [hs3]
                repeat' first | exact trivial | exact rfl | refine And.intro ?_ ?_
              · rw [show addI o3 y = o3 from if_pos h9] at hs3
                repeat' ((conv => whnf); first | (refine dec (fun h => ?_) (fun h => ?_) <;> try contradiction) | (refine decN (fun h => ?_) (fun h => ?_) <;> try contradiction) | refine booN (fun h => ?_) (fun h => ?_) | refine boo (fun h => ?_) (fun h => ?_) | refine ⟨i64 (by omega) (by omega), ?_⟩ | refine ⟨_, _, rfl, List.getElem?_eq_getElem (by omega), ?_⟩ | refine ⟨_, ⟨rfl, by omega⟩, ?_⟩ | refine ⟨_, List.getElem?_eq_getElem (by omega), ?_⟩ | refine rtB ?_ | refine rtI ?_ | refine rtC ?_ rfl | fail)
                refine ag (n + 1) [] [.same 0, .same 1, .same 2, .same 3, .same 4, .same 5, .same 6] ⟨hnt, trivial⟩ (by simp only []; omega) ?_
                rw [hs3]
                repeat' first | exact trivial | exact rfl | refine And.intro ?_ ?_
            · obtain rfl : n = xs.length := by omega
              rw [List.take_length, ← hs2]
              repeat' ((conv => whnf); first | (refine dec (fun h => ?_) (fun h => ?_) <;> try contradiction) | (refine decN (fun h => ?_) (fun h => ?_) <;> try contradiction) | refine booN (fun h => ?_) (fun h => ?_) | refine boo (fun h => ?_) (fun h => ?_) | refine ⟨i64 (by omega) (by omega), ?_⟩ | refine ⟨_, _, rfl, List.getElem?_eq_getElem (by omega), ?_⟩ | refine ⟨_, ⟨rfl, by omega⟩, ?_⟩ | refine ⟨_, List.getElem?_eq_getElem (by omega), ?_⟩ | refine rtB ?_ | refine rtI ?_ | refine rtC ?_ rfl | fail)
              refine ag (j + 1) [] [.same 0, .same 1, .same 2, .same 3, .same 4, .same 5, .same 6] ⟨hji, trivial⟩ (by simp only []; omega) ?_
              repeat' first | exact trivial | exact rfl | refine And.intro ?_ ?_
        · obtain rfl : j = i := by omega
          rw [← hst]
          repeat' ((conv => whnf); first | (refine dec (fun h => ?_) (fun h => ?_) <;> try contradiction) | (refine decN (fun h => ?_) (fun h => ?_) <;> try contradiction) | refine booN (fun h => ?_) (fun h => ?_) | refine boo (fun h => ?_) (fun h => ?_) | refine ⟨i64 (by omega) (by omega), ?_⟩ | refine ⟨_, _, rfl, List.getElem?_eq_getElem (by omega), ?_⟩ | refine ⟨_, ⟨rfl, by omega⟩, ?_⟩ | refine ⟨_, List.getElem?_eq_getElem (by omega), ?_⟩ | refine rtB ?_ | refine rtI ?_ | refine rtC ?_ rfl | fail)
          refine ag (k + 1) [] [.same 0, .same 1, .same 2, .same 3, .same 4, .same 5, .same 6] ⟨hkt, trivial⟩ (by simp only []; omega) ?_
          repeat' first | exact trivial | exact rfl | refine And.intro ?_ ?_
      · obtain rfl : k = o.parents.length := by have h5 : ¬ (k : Int) < o.parents.length := h5; omega
        rw [List.take_length]
        have hup := up_len hft o.parents
        have hcu : Coms M (upO im o.parents) := him.up
        generalize upO im o.parents = up at heq hstep hup hcu ⊢
        rcases hat : atF M o.tree dir with ⟨t, c⟩
        have p2 := treeAt_spec M hM o.tree dir hd
        rw [hat] at p2
        dsimp only at p2
        have e9 : c = 9 → imO M dir up o = (up, 0, M) := fun h => by unfold imO; rw [hat]; exact if_pos h
        have ec : c ≠ 9 → c ≠ 0 → imO M dir up o = ([], c, M) := fun h1 h2 => by unfold imO; rw [hat, if_neg h1, if_pos h2]
        have eu : c = 0 → (up.length = 1 ∧ (getP M (up.headD 0)).tree = t) → imO M dir up o = (up, 0, M) := fun h1 h2 => by unfold imO; subst h1; rw [hat]; exact (if_neg (fun h => by cases h)).trans ((if_neg (fun h => h rfl)).trans (if_pos h2))
        have ep : c = 0 → ¬ (up.length = 1 ∧ (getP M (up.headD 0)).tree = t) → imO M dir up o = ([(putP M (comO t up o.text)).1], (putP M (comO t up o.text)).2.1, (putP M (comO t up o.text)).2.2) := fun h1 h2 => by unfold imO; subst h1; rw [hat]; exact (if_neg (fun h => by cases h)).trans ((if_neg (fun h => h rfl)).trans (if_neg h2))
        have p3 := putR_spec M (comO t up o.text) hM.len
        have hii : im2[i]? = some im2[i] := List.getElem?_eq_getElem (by omega)
        have hi2 : i < im2.length := by omega
        (conv => whnf)
        refine cl [] [] (p2) ?_
        (conv => whnf)
        refine decN (fun q1 => ?_) (fun q1 => ?_)
        · (conv => whnf)
          refine decN (fun q2 => ?_) (fun q2 => ?_)
          · rw [ec q2 q1, if_pos q1] at heq
            rw [heq, if_pos q1] at hF
            subst hF
            (conv => whnf)
            exact rx [] [.same 0, .same 1, .same 2]
          · have q2 : c = 9 := q2
            subst q2
            (conv => whnf)
            refine ⟨false, .grow, (.l [0, 1, 2, 3, 4, 5, 6, 7, 8, 9, 10, 11, 12, 13, 14, 15, 16, 17, 18, 19, 20]), by kernel_rfl, .inl ?_⟩
            (conv => whnf)
            refine ⟨i, ⟨rfl, hi2⟩, ?_⟩
            (conv => whnf)
            refine ⟨_, up, hii, ⟨Nat.le_refl 1, rfl⟩, ?_⟩
            repeat' ((conv => whnf); first | (refine dec (fun h => ?_) (fun h => ?_) <;> try contradiction) | (refine decN (fun h => ?_) (fun h => ?_) <;> try contradiction) | refine booN (fun h => ?_) (fun h => ?_) | refine boo (fun h => ?_) (fun h => ?_) | refine ⟨i64 (by omega) (by omega), ?_⟩ | refine ⟨_, _, rfl, List.getElem?_eq_getElem (by omega), ?_⟩ | refine ⟨_, ⟨rfl, by omega⟩, ?_⟩ | refine ⟨_, List.getElem?_eq_getElem (by omega), ?_⟩ | refine rtB ?_ | refine rtI ?_ | refine rtC ?_ rfl | fail)
            refine ag (i + 1, M, im2.set i up) [] [.same 0, .same 1, .same 2, .same 3, .same 4] ⟨⟨_, hstep up M (e9 rfl)⟩, trivial⟩ (by simp only []; omega) ?_
            repeat' first | exact trivial | exact rfl | refine And.intro ?_ ?_
        · have q1 : c = 0 := q1
          subst q1
          have eu := eu rfl
          have ep := ep rfl
          (conv => whnf)
          refine ⟨false, .grow, (.l [0, 1, 2, 3, 4, 5, 6, 7, 8, 9, 10, 11, 12, 13, 14, 15, 16, 17, 18, 19, 20]), by kernel_rfl, .inl ?_⟩
          (conv => whnf)
          refine dec (fun q3 => ?_) (fun q3 => ?_)
          · obtain ⟨u, rfl⟩ := List.length_eq_one_iff.1 (show up.length = 1 by have q3 : (up.length : Int) = 1 := q3; omega)
            have hku := hcu u (by simp)
            have hpu := kindOf_pos (l := M) (id := u) (by omega)
            have hgu : M[u.toNat]? = some (getP M u) := by rw [getP_at hpu.1 hpu.2]; exact List.getElem?_eq_getElem hpu.2
            (conv => whnf)
            refine ⟨0, ⟨rfl, Nat.one_pos⟩, ?_⟩
            (conv => whnf)
            refine ⟨u, rfl, ?_⟩
            (conv => whnf)
            refine ⟨u.toNat, ⟨by omega, hpu.2⟩, ?_⟩
            (conv => whnf)
            refine ⟨getP M u, hgu, ?_⟩
            (conv => whnf)
            refine dec (fun q4 => ?_) (fun q4 => ?_)
            · (conv => whnf)
              refine ⟨i, ⟨rfl, hi2⟩, ?_⟩
              (conv => whnf)
              refine ⟨_, [u], hii, ⟨Nat.le_refl 1, rfl⟩, ?_⟩
              repeat' ((conv => whnf); first | (refine dec (fun h => ?_) (fun h => ?_) <;> try contradiction) | (refine decN (fun h => ?_) (fun h => ?_) <;> try contradiction) | refine booN (fun h => ?_) (fun h => ?_) | refine boo (fun h => ?_) (fun h => ?_) | refine ⟨i64 (by omega) (by omega), ?_⟩ | refine ⟨_, _, rfl, List.getElem?_eq_getElem (by omega), ?_⟩ | refine ⟨_, ⟨rfl, by omega⟩, ?_⟩ | refine ⟨_, List.getElem?_eq_getElem (by omega), ?_⟩ | refine rtB ?_ | refine rtI ?_ | refine rtC ?_ rfl | fail)
              refine ag (i + 1, M, im2.set i [u]) [] [.same 0, .same 1, .same 2, .same 3, .same 4] ⟨⟨_, hstep [u] M (eu ⟨rfl, q4⟩)⟩, trivial⟩ (by simp only []; omega) ?_
              repeat' first | exact trivial | exact rfl | refine And.intro ?_ ?_
            · have ep := ep (fun h => q4 h.2)
              generalize putP M (comO t [u] o.text) = Q at *
              (conv => whnf)
              refine cl [] [0, 2] (p3) ?_
              (conv => whnf)
              refine decN (fun q5 => ?_) (fun q5 => ?_)
              · rw [ep, if_pos q5] at heq
                rw [heq, if_pos q5] at hF
                subst hF
                (conv => whnf)
                exact rx [] [.same 0, .same 1, .same 7]
              · have q5 : Q.2.1 = 0 := q5
                (conv => whnf)
                refine ⟨[Q.1], rfl, ?_⟩
                (conv => whnf)
                refine ⟨i, ⟨rfl, hi2⟩, ?_⟩
                (conv => whnf)
                refine ⟨_, [Q.1], hii, ⟨Nat.le_refl 1, rfl⟩, ?_⟩
                repeat' ((conv => whnf); first | (refine dec (fun h => ?_) (fun h => ?_) <;> try contradiction) | (refine decN (fun h => ?_) (fun h => ?_) <;> try contradiction) | refine booN (fun h => ?_) (fun h => ?_) | refine boo (fun h => ?_) (fun h => ?_) | refine ⟨i64 (by omega) (by omega), ?_⟩ | refine ⟨_, _, rfl, List.getElem?_eq_getElem (by omega), ?_⟩ | refine ⟨_, ⟨rfl, by omega⟩, ?_⟩ | refine ⟨_, List.getElem?_eq_getElem (by omega), ?_⟩ | refine rtB ?_ | refine rtI ?_ | refine rtC ?_ rfl | fail)
                refine ag (i + 1, Q.2.2, im2.set i [Q.1]) [] [.same 0, .same 1, .same 7, .same 3, .same 4] ⟨⟨_, hstep [Q.1] Q.2.2 (by rw [ep, q5])⟩, trivial⟩ (by simp only []; omega) ?_
                repeat' first | exact trivial | exact rfl | refine And.intro ?_ ?_
          · have ep := ep (fun h => q3 (by show (up.length : Int) = 1; omega))
            generalize putP M (comO t up o.text) = Q at *
            (conv => whnf)
            refine cl [] [0, 2] (p3) ?_
            (conv => whnf)
            refine decN (fun q5 => ?_) (fun q5 => ?_)
            · rw [ep, if_pos q5] at heq
              rw [heq, if_pos q5] at hF
              subst hF
              (conv => whnf)
              exact rx [] [.same 0, .same 1, .same 7]
            · have q5 : Q.2.1 = 0 := q5
              (conv => whnf)
              refine ⟨[Q.1], rfl, ?_⟩
              (conv => whnf)
              refine ⟨i, ⟨rfl, hi2⟩, ?_⟩
              (conv => whnf)
              refine ⟨_, [Q.1], hii, ⟨Nat.le_refl 1, rfl⟩, ?_⟩
              repeat' ((conv => whnf); first | (refine dec (fun h => ?_) (fun h => ?_) <;> try contradiction) | (refine decN (fun h => ?_) (fun h => ?_) <;> try contradiction) | refine booN (fun h => ?_) (fun h => ?_) | refine boo (fun h => ?_) (fun h => ?_) | refine ⟨i64 (by omega) (by omega), ?_⟩ | refine ⟨_, _, rfl, List.getElem?_eq_getElem (by omega), ?_⟩ | refine ⟨_, ⟨rfl, by omega⟩, ?_⟩ | refine ⟨_, List.getElem?_eq_getElem (by omega), ?_⟩ | refine rtB ?_ | refine rtI ?_ | refine rtC ?_ rfl | fail)
              refine ag (i + 1, Q.2.2, im2.set i [Q.1]) [] [.same 0, .same 1, .same 7, .same 3, .same 4] ⟨⟨_, hstep [Q.1] Q.2.2 (by rw [ep, q5])⟩, trivial⟩ (by simp only []; omega) ?_
              repeat' first | exact trivial | exact rfl | refine And.intro ?_ ?_
    · obtain rfl : i = line.length := by have h4 : ¬ (i : Int) < line.length := h4; omega
      rw [List.drop_length] at heq
      rw [heq, splG_nil, if_neg (by simp)] at hF
      dsimp only at hF
      have hb1 : line.length - 1 < line.length := by omega
      have hbx := hpos (line.length - 1) hb1 hb1
      have hle : line[line.length - 1] = id := by
        rw [List.getElem?_eq_getElem hb1] at hll
        exact Option.some.inj hll
      rw [hle] at hbx
      have hb2 : line.length - 1 < im2.length := by omega
      generalize imA im id = out at *
      have hz2 : (line.length : Int) - 1 = ((line.length - 1 : Nat) : Int) := by omega
      (conv => whnf)
      refine ⟨i64 (by omega) (by omega), ?_⟩
      (conv => whnf)
      refine ⟨line.length - 1, ⟨hz2, hb2⟩, ?_⟩
      (conv => whnf)
      refine ⟨out, hbx, ?_⟩
      (conv => whnf)
      refine dec (fun h5 => ?_) (fun h5 => ?_)
      · have h5 : (out.length : Int) = 0 := h5
        rw [show oneO out = (0, 9) from if_pos (by omega)] at hF
        subst hF
        (conv => whnf)
        exact rx [] [.same 0, .same 1, .same 2]
      have h5 : ¬ (out.length : Int) = 0 := h5
      (conv => whnf)
      refine dec (fun h6 => ?_) (fun h6 => ?_)
      · have h6 : (1 : Int) < out.length := h6
        rw [show oneO out = (0, 5) from (if_neg (by omega)).trans (if_neg (by omega))] at hF
        subst hF
        (conv => whnf)
        exact rx [] [.same 0, .same 1, .same 2]
      · have h6 : ¬ (1 : Int) < out.length := h6
        obtain ⟨y, rfl⟩ := List.length_eq_one_iff.1 (show out.length = 1 by omega)
        rw [show oneO [y] = (y, 0) from rfl] at hF
        subst hF
        (conv => whnf)
        refine ⟨0, y, rfl, rfl, ?_⟩
        (conv => whnf)
        exact rx [] [.same 0, .same 1, .same 2]
  · have e0 : ancP L id = ([], 9) := if_neg hk
    have hF : splitF L id dir = (0, 9, L) := by unfold splitF; rw [e0]; rfl
    rw [hF, e0]
    (conv => whnf)
    exact rx [] [.same 0, .same 1, .same 1]
end Go.Nest
end
/- WALKS, W12: WalkDoes. -/
section
namespace Go.Nest
open Go Go.AM Go.Proofs
open Go.Proofs.YtogallppofinhaaGreatDoor (tab tabOk)
set_option linter.unusedVariables false
set_option linter.unusedSimpArgs false
set_option maxRecDepth 4000
end Go.Nest
end
/- WALKS, U8: the law SplitDoes. -/
section
namespace Go.Nest
open Go Go.AM Go.Proofs
open Go.Proofs.YtogallppofinhaaGreatDoor (tab tabOk)
set_option linter.unusedVariables false
set_option linter.unusedSimpArgs false
set_option maxRecDepth 4000
set_option maxHeartbeats 2000000 in
theorem splitDoes_spec (l : List Sn) (a : Int) (dir : List UInt8) (t o : Int) (hl : ∀ s ∈ l, DocsFit s.docs) : Does Tryz.prog 13 [.c (.ls 3 Sn encSn l), .c (.int .i64 a), .c (.str dir), .c (.int .i64 t), .c (.int .i64 o)] [] (Rt (.c (.bool true)) []) := by
  refine X_spec (n := 109) (n0 := 0) tabOk Tryz.call13 Tryz.func13 ?_
  intro hb
  (conv => whnf)
  refine cl [] [] (splitBegun_spec) ?_
  (conv => whnf)
  refine cl [] [] (greatSnaps_spec l hl) ?_
  (conv => whnf)
  refine boo (fun g1 => ?_) (fun g1 => ?_)
  · (conv => whnf)
    exact rtC rfl rfl
  have hg := greatS_ok g1
  (conv => whnf)
  refine dec (fun g2 => ?_) (fun g2 => ?_)
  · (conv => whnf)
    exact rtC rfl rfl
  have hd : dir.length ≤ 500 := by have g2 : ¬ (500 : Int) < dir.length := g2; omega
  (conv => whnf)
  refine cl [] [] (grown_spec l hg) ?_
  have hL : PoolOk (growU l).1 := grow_ok
  generalize growU l = G at *
  obtain ⟨L, made⟩ := G
  dsimp only at hL
  have o1 := one_spec made a
  generalize oneP made a = id at *
  have p1 := split_spec L hL id dir (by omega)
  have p2 := alone_spec L hL id dir (by omega)
  rcases hsp : splitF L id dir with ⟨x, c, M⟩
  have hM := (split_law hL hsp).1
  rw [hsp] at p1 p2
  dsimp only at p1 p2
  have p3 := add_spec M hM t dir (by omega) o
  have p4 := addD_spec M hM t dir (by omega) o
  generalize addF M t dir o = Q at *
  obtain ⟨y, d, N⟩ := Q
  dsimp only at p3 p4
  (conv => whnf)
  refine cl [] [] (o1) ?_
  (conv => whnf)
  refine cl [] [0, 1] (p1) ?_
  (conv => whnf)
  refine cl [] [] (o1) ?_
  (conv => whnf)
  refine cl [] [2, 3] (p2) ?_
  (conv => whnf)
  refine ⟨false, .grow, (.l [0, 1, 2, 3, 4, 5, 6, 7, 8, 9, 10, 11, 12, 13, 15, 16, 17, 18, 19, 14, 20, 21]), by kernel_rfl, .inl ?_⟩
  (conv => whnf)
  refine decN (fun h => absurd rfl h) (fun _ => ?_)
  (conv => whnf)
  refine decN (fun h => absurd rfl h) (fun _ => ?_)
  (conv => whnf)
  refine cl [] [] (len_spec M) ?_
  (conv => whnf)
  refine decN (fun h => absurd rfl h) (fun _ => ?_)
  (conv => whnf)
  refine cl [] [0, 5] (p3) ?_
  (conv => whnf)
  refine cl [] [2, 6] (p4) ?_
  (conv => whnf)
  refine ⟨false, .grow, (.l [0, 1, 2, 3, 4, 5, 6, 7, 8, 9, 11, 12, 13, 14, 15, 10, 16, 17, 18]), by kernel_rfl, .inl ?_⟩
  (conv => whnf)
  refine dec (fun _ => ?_) (fun h => absurd rfl h)
  (conv => whnf)
  refine dec (fun _ => ?_) (fun h => absurd rfl h)
  (conv => whnf)
  refine cl [] [] (len_spec N) ?_
  (conv => whnf)
  exact rtB (decide_eq_true rfl)
end Go.Nest
end
