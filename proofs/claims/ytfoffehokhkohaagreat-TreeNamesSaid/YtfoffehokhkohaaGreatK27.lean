/- Part 27 of what is proved in the last text (packed by a program of mine). -/
import Derived.Test.YtfoffehokhkohaaGreatK11
import Derived.Test.YtfoffehokhkohaaGreatK12
import Derived.Test.YtfoffehokhkohaaGreatK13
import Derived.Test.YtfoffehokhkohaaGreatK21
import Derived.Test.YtfoffehokhkohaaGreatK24
import Derived.Test.YtfoffehokhkohaaGreatK25
import Derived.Test.YtfoffehokhkohaaGreatK26
set_option linter.all false
set_option maxRecDepth 20000
namespace Go.Proofs.YtfoffehokhkohaaGreat
open Go
variable [VPg]
theorem RemR.le {b db : Nat} {σ : Sp} {pg : PG} {E : List Nat} {r : Bool} {h : Nat} {l' : Ent} {c c' : Nat} (hc : c ≤ c') {y : SV} {hp : List Ch} (H : RemR b db σ pg E r h l' c y hp) : RemR b db σ pg E r h l' c' y hp := by
 obtain ⟨q, x', ls', σ', pg', h1, h2, h3⟩ := H
 exact ⟨q, x', ls', σ', pg', h1, h2, h3.le hc⟩
set_option maxHeartbeats 4000000 in
theorem tree_remove (b db key val : Nat) (r : Bool) (hkey : key < 18446744073709551616) : ∀ (h n : Nat) (σ : Sp) (pg : PG) (E : List Nat) (l : Ent), Inv σ pg (n :: E) → Rep pg r h n l → EntOk l → (key, val) ∈ l → E.length + 600 * h ≤ 30000 → Room σ (2 * h + 3) →
  FnSpec Tryz.prog 47 [.res fun _ => SpaceR b db σ] [.pt fun _ => ⟨b, 0, none⟩, .int .u32 fun _ => toI n, .int .u64 fun _ => toI key] (RemR b db σ pg E r h (ecut l key) (2 * h)) := by
 intro h
 induction h with
 | zero =>
  intro n σ pg E l hI hR he hm hE hRm
  cases r with
  | false => exact (remove_leaf b db n key val σ pg E l hkey hI hR he hm (by omega)).mono fun y hp H => H.le (Nat.zero_le _)
  | true => exact (remove_refs b db n key val σ pg E l hkey hI hR he hm (by omega)).mono fun y hp H => H.le (Nat.zero_le _)
 | succ h ih =>
  intro n σ pg E l hI hR he hm hE hRm
  have hop := tree_open b db n (h + 1) r σ pg E l hI hR he (by omega)
  obtain ⟨l', hl'⟩ : ∃ l', l' = ecut l key := ⟨_, rfl⟩
  obtain ⟨c0, hc0⟩ : ∃ c0, c0 = 2 * (h + 1) := ⟨_, rfl⟩
  rw [← hl', ← hc0]
  refine spec_cl mixed F47 rfl rfl rfl (fun Γ hΓ hb => ?_)
  cbv
  intro b1
  cbv
  refine cP hΓ (hop) [0] ?_
  rintro x hp' ⟨q, x, ls, σ1, rfl, rfl, g1, g2, g3, g4, g5, g6, g7, g8⟩
  refine ⟨rfl, ?_⟩
  cbv
  intro b2
  cbv
  refine .no (neF rfl) ?_
  cbv
  subst g2
  have hx3 : x.tag = 3 := by rw [g1.tag, if_neg (by omega)]
  have hkl : x.keys.length = ls.length := by rw [g1.keys, List.length_map]
  have hkk : x.kids.length = ls.length := by rw [g1.kids, if_neg (by omega)]
  have hv0 : x.vals = [] := List.eq_nil_of_length_eq_zero (by rw [g1.vals, if_neg (by omega)])
  have h2l : 2 ≤ ls.length := by unfold least at g3; rw [if_neg (by omega)] at g3; exact g3
  obtain ⟨c1, c2, c3⟩ := child_split he g1.ne (by omega) key
  have hch := child_ok 3 key x.keys.length q.k.e q.k.e q.k.a q.k.ad hkey (gv q x) (gd q x) x.keys rfl (by omega) g5.srt g5.lt
  rw [← g1.keys] at c1 c2 c3
  revert hch c1 c2 c3
  generalize cix x.keys key = c
  intro c1 c2 c3 hch
  obtain ⟨_, kn, hkn, hkm, hkr⟩ := g1.inner c1
  have hkn2 : x.kids = x.kids.take c ++ (kn :: x.kids.drop (c + 1)) := by
   have e := take_mid x.kids c (by omega)
   rw [List.getD_eq_getElem?_getD, List.getElem?_eq_getElem (by omega)] at hkn
   have : x.kids[c]'(by omega) = kn := hkn
   rw [this] at e
   exact e
  have hIk : Inv σ1 pg (kn :: (x.kids.take c ++ (x.kids.drop (c + 1) ++ E))) := by
   refine g7.perm ?_
   conv => lhs; rw [hkn2]
   rw [List.append_assoc, List.cons_append]
   exact List.perm_middle
  have hmc : (key, val) ∈ ls[c] := by
   rw [flat_mid ls c c1] at hm
   rcases List.mem_append.1 hm with hm | hm
   ·have := c2 _ hm; simp at this
   ·rcases List.mem_append.1 hm with hm | hm
    ·exact hm
    ·have := c3 _ hm; simp at this
  have hin := ih kn σ1 pg (x.kids.take c ++ (x.kids.drop (c + 1) ++ E)) ls[c] hIk hkr (he.at (List.getElem_mem _)) hmc (by rw [List.length_append, List.length_append, List.length_take, List.length_drop]; omega) ((hRm.le (by omega) : Room σ (0 + (2 * h + 3))).step g8)
  obtain ⟨m', hm'⟩ : ∃ m', m' = ecut ls[c] key := ⟨_, rfl⟩
  rw [← hm'] at hin
  obtain ⟨ch, hch2⟩ : ∃ ch, ch = 2 * h := ⟨_, rfl⟩
  rw [← hch2] at hin
  have hll : l' = (ls.take c).flatten ++ (m' ++ (ls.drop (c + 1)).flatten) := by
   rw [hl', flat_mid ls c c1, ecut_mid c2 c3, hm']
  rw [hx3]
  refine cP hΓ (inner_yes (gk q x) (gv q x) (gd q x)) [3, 4, 2] ?_
  rintro x hp' ⟨rfl, rfl⟩
  refine ⟨rfl, ?_⟩
  cbv
  refine cP hΓ (hch) [3, 4, 2] ?_
  rintro x hp' ⟨rfl, rfl⟩
  refine ⟨rfl, ?_⟩
  cbv
  repeat ((first | refine VC.mk rf ?_ | refine ADD.mk rf ?_); cbv)
  rw [show x.kids.getD (0 + (toI c).toNat) 0 = kn by rw [toI_toNat, Nat.zero_add]; exact hkn]
  refine cP hΓ (hin) [0] ?_
  rintro x hp' ⟨qy, y, lsy, σ2, pg2, rfl, rfl, hy⟩
  refine ⟨rfl, ?_⟩
  cbv
  intro b3
  cbv
  refine .no (neF rfl) ?_
  cbv
  have hyl : y.keys.length = lsy.length := by rw [hy.nr.keys, List.length_map]
  have hyk : y.kids.length ≤ lsy.length := by rw [hy.nr.kids]; split <;> omega
  have hst2 : Step ch σ σ2 := (g8.trans hy.step).le (by omega)
  have hRm2 : Room σ2 5 := Room.step (j := ch) (hRm.le (by omega)) hst2
  have hyf : lsy.length ≤ mostE σ2 y.tag := by rw [mostE_step hy.step]; exact hy.fit
  have hm6 := most6 hy.inv.ok y.tag
  have hmh := most_hi hy.inv.ok y.tag
  by_cases hy0 : lsy.length = 0
  ·have hls0 : lsy = [] := List.eq_nil_of_length_eq_zero hy0
   have hyd : y.kids = [] := List.eq_nil_of_length_eq_zero (by omega)
   have hm0 : m' = [] := by rw [← hy.fl, hls0]; rfl
   have hI3 := hy.inv
   rw [hyd, List.nil_append] at hI3
   have hrem := (rem_at (Q := []) g1 c1 (by rw [← mostE_step (Step.refl σ)]; exact g6) h2l hst2 hy.keep (fun q hq => by cases hq) hI3 (by simp) hm0.symm hll).le (show ch ≤ c0 by omega)
   have hwi := with_ok b2 3 c 0 q x ⟨3, swapL x.keys c [], [], swapL x.kids c []⟩ [] [] none none none none 0 0 rfl rfl (by omega) (by omega) (by omega) (by omega) (by omega) rfl rfl
   have hrem : Rem σ pg E r (h + 1) l' c0 σ2 pg2 ⟨3, swapL x.keys c [], [], swapL x.kids c []⟩ (swapL ls c []) := hrem
   obtain ⟨x', hx'⟩ : ∃ x' : Nd, x' = ⟨3, swapL x.keys c [], [], swapL x.kids c []⟩ := ⟨_, rfl⟩
   rw [← hx'] at hrem hwi
   unfold wiL at hwi
   refine .yes (eqT om) ?_
   cbv
   refine callP_nil [.nat .u64] (args' := [.bp 5 0, .int .i64 fun _ => toI c, .sl 10 (fun _ => none) (fun _ => 0) (fun _ => 0) (fun _ => 0), .nils]) rfl (by cbv; exact rf) ?_
   refine callP_nil [.nat .u32] (args' := [.bp 5 0, .int .i64 fun _ => toI c, .sl 10 (fun _ => none) (fun _ => 0) (fun _ => 0) (fun _ => 0), .sl 11 (fun _ => none) (fun _ => 0) (fun _ => 0) (fun _ => 0)]) rfl (by cbv; exact rf) ?_
   cbv
   refine cP hΓ (hwi) [5, 2, 3, 4, 10, 11] ?_
   rintro x hp' ⟨b1', bd1, b2', bd2, f1, f2, rfl, rfl⟩
   refine ⟨rfl, ?_⟩
   cbv
   have ht1 : x'.tag = 3 := by rw [hx']
   have hv1 : x'.vals = [] := by rw [hx']
   have hvv : x.vals = x'.vals := by rw [hv0, hv1]
   have hvl : x.vals.length = x'.vals.length := by rw [hvv]
   refine Cl.by (v' := .tup [ndV 2 3 1 ⟨⟨b1', bd1, f1⟩, q.v, ⟨b2', bd2, f2⟩⟩ x', .int .i64 fun _ => 0]) (hp' := appL [.res fun _ => SpaceR b db σ2] (ndL ⟨⟨b1', bd1, f1⟩, q.v, ⟨b2', bd2, f2⟩⟩ x' true)) [.one 0, .one 13, .one 12, .one 4] 1 hb rfl rfl (nodup_of rfl) rfl ?_ rfl ?_
    ⟨⟨⟨b1', bd1, f1⟩, q.v, ⟨b2', bd2, f2⟩⟩, x', _, σ2, _, rfl, rfl, hrem⟩
   ·cbv
    exact rf
   ·cbv
    exact rf
  ·have hn : cutN lsy.length (mostE σ2 y.tag) = 1 := by
    obtain ⟨d1, d2, d3, d4⟩ := cutN_ok (m := lsy.length) (fit := mostE σ2 y.tag) (by omega) (by omega)
    rcases Nat.lt_or_ge 1 (cutN lsy.length (mostE σ2 y.tag)) with h | h
    ·have : 1 * mostE σ2 y.tag ≤ (cutN lsy.length (mostE σ2 y.tag) - 1) * mostE σ2 y.tag := Nat.mul_le_mul_right _ (by omega)
     omega
    ·omega
   have hup : ∀ (σ3 : Sp) (pg3 : PG) (Q : List (Nat × Ent)), Shut σ2 pg2 (x.kids.take c ++ (x.kids.drop (c + 1) ++ E)) r h y lsy lsy.length σ3 pg3 Q → Q.length = 1 →
     Rem σ pg E r (h + 1) l' c0 σ3 pg3 ⟨3, swapL x.keys c (Q.map fun q => hd q.2), [], swapL x.kids c (Q.map fun q => q.1)⟩ (swapL ls c (Q.map fun q => q.2)) := by
    intro σ3 pg3 Q hS hQ
    obtain ⟨u1, u2, u3⟩ := hS.up hyk
    exact (rem_at g1 c1 g6 h2l (hst2.trans hS.step) (hy.keep.trans (hS.keep.mono fun m hm => List.mem_append_right _ hm)) hS.rep u2 (by omega) (u3.trans hy.fl) hll).le (by omega)
   refine .no (eqF om) ?_
   cbv
   cases h with
   | zero =>
    have hsh := shut_any b db y.tag 0 1 r σ2 pg2 (x.kids.take c ++ (x.kids.drop (c + 1) ++ E)) (gk qy y) (gv qy y) (gd qy y) y lsy ng_gk hy.nr (by unfold least; rw [if_pos rfl]; omega) (by omega) hn hy.inv (hRm2.le (by omega))
    have hy3 : y.tag ≠ 3 := by rw [hy.nr.tag, if_pos rfl]; unfold leafTag; split <;> decide
    refine cP hΓ (inner_no y.tag hy3 (gk qy y) (gv qy y) (gd qy y)) [7, 8, 6] ?_
    rintro x hp' ⟨rfl, rfl⟩
    refine ⟨rfl, ?_⟩
    cbv
    refine cP hΓ (inner_no y.tag hy3 (gk qy y) (gv qy y) (gd qy y)) [7, 8, 6] ?_
    rintro x hp' ⟨rfl, rfl⟩
    refine ⟨rfl, ?_⟩
    cbv
    refine cP hΓ (hsh) [0, 7, 8, 6] ?_
    rintro x hp' ⟨σ3, pg3, Q, a1, ad1, a2, ad2, e1, e2, rfl, rfl, hS, hQ⟩
    refine ⟨rfl, ?_⟩
    cbv
    have hrem := hup σ3 pg3 Q hS hQ
    have hwi := with_ok b2 3 c 1 q x ⟨3, swapL x.keys c (Q.map fun q => hd q.2), [], swapL x.kids c (Q.map fun q => q.1)⟩ (Q.map fun q => hd q.2) (Q.map fun q => q.1) a1 ad1 a2 ad2 e1 e2 (by rw [List.length_map, hQ]) (by rw [List.length_map, hQ]) (by omega) (by omega) (by omega) (by omega) (by omega) rfl rfl
    obtain ⟨x', hx'⟩ : ∃ x' : Nd, x' = ⟨3, swapL x.keys c (Q.map fun q => hd q.2), [], swapL x.kids c (Q.map fun q => q.1)⟩ := ⟨_, rfl⟩
    rw [← hx'] at hrem hwi
    unfold wiL at hwi
    refine cP hΓ (hwi) [5, 2, 3, 4, 10, 11] ?_
    rintro x hp' ⟨b1', bd1, b2', bd2, f1, f2, rfl, rfl⟩
    refine ⟨rfl, ?_⟩
    cbv
    have ht1 : x'.tag = 3 := by rw [hx']
    have hv1 : x'.vals = [] := by rw [hx']
    have hvv : x.vals = x'.vals := by rw [hv0, hv1]
    have hvl : x.vals.length = x'.vals.length := by rw [hvv]
    refine Cl.by (v' := .tup [ndV 2 3 1 ⟨⟨b1', bd1, f1⟩, q.v, ⟨b2', bd2, f2⟩⟩ x', .int .i64 fun _ => 0]) (hp' := appL [.res fun _ => SpaceR b db σ3] (ndL ⟨⟨b1', bd1, f1⟩, q.v, ⟨b2', bd2, f2⟩⟩ x' true)) [.one 0, .one 13, .one 12, .one 4] 1 hb rfl rfl (nodup_of rfl) rfl ?_ rfl ?_
     ⟨⟨⟨b1', bd1, f1⟩, q.v, ⟨b2', bd2, f2⟩⟩, x', _, σ3, _, rfl, rfl, hrem⟩
    ·cbv
     exact rf
    ·cbv
     exact rf
   | succ h =>
    have hy3 : y.tag = 3 := by rw [hy.nr.tag, if_neg (by omega)]
    have hyd : y.kids.length = lsy.length := by rw [hy.nr.kids, if_neg (by omega)]
    rw [hy3]
    refine cP hΓ (inner_yes (gk qy y) (gv qy y) (gd qy y)) [7, 8, 6] ?_
    rintro x hp' ⟨rfl, rfl⟩
    refine ⟨rfl, ?_⟩
    cbv
    by_cases hy1 : lsy.length = 1
    ·refine .yes (decide_eq_true om) ?_
     cbv
     refine .yes (decide_eq_true om) ?_
     cbv
     have hxr : ∀ l ∈ ls, EntOk l := fun l hl => he.at hl
     by_cases hcl : c + 1 = ls.length
     ·obtain ⟨a, rfl⟩ : ∃ a, c = a + 1 := ⟨c - 1, by omega⟩
      have hj := join_left b db h a ch r σ σ2 pg pg2 E q qy x y ls lsy l' g1 hy.nr hy1 g6 (by omega) hxr hst2 hy.keep hy.inv (by omega) (hRm2.le (by omega)) (by rw [hy.fl]; exact hll)
      obtain ⟨c, hc⟩ : ∃ c, c = a + 1 := ⟨_, rfl⟩
      rw [← hc] at hj ⊢
      refine cP hΓ (hj) [0, 2, 3, 4, 6, 7, 8] ?_
      rintro x hp' ⟨a1, ad1, a2, ad2, e1, e2, x', ls', σ3, pg3, rfl, rfl, hrem, hv1, ht1⟩
      refine ⟨rfl, ?_⟩
      cbv
      have hvv : x.vals = x'.vals := by rw [hv0, hv1]
      have hvl : x.vals.length = x'.vals.length := by rw [hvv]
      refine Cl.by (v' := .tup [ndV 2 3 1 ⟨⟨a1, ad1, e1⟩, q.v, ⟨a2, ad2, e2⟩⟩ x', .int .i64 fun _ => 0]) (hp' := appL [.res fun _ => SpaceR b db σ3] (ndL ⟨⟨a1, ad1, e1⟩, q.v, ⟨a2, ad2, e2⟩⟩ x' true)) [.one 0, .one 11, .one 10, .one 4] 1 hb rfl rfl (nodup_of rfl) rfl ?_ rfl ?_
       ⟨⟨⟨a1, ad1, e1⟩, q.v, ⟨a2, ad2, e2⟩⟩, x', ls', σ3, pg3, rfl, rfl, hrem.le (by omega)⟩
      ·cbv
       exact rf
      ·cbv
       exact rf
     ·have hj := join_right b db h c ch r σ σ2 pg pg2 E q qy x y ls lsy l' g1 hy.nr hy1 g6 (by omega) hxr hst2 hy.keep hy.inv (by omega) (hRm2.le (by omega)) (by rw [hy.fl]; exact hll)
      refine cP hΓ (hj) [0, 2, 3, 4, 6, 7, 8] ?_
      rintro x hp' ⟨a1, ad1, a2, ad2, e1, e2, x', ls', σ3, pg3, rfl, rfl, hrem, hv1, ht1⟩
      refine ⟨rfl, ?_⟩
      cbv
      have hvv : x.vals = x'.vals := by rw [hv0, hv1]
      have hvl : x.vals.length = x'.vals.length := by rw [hvv]
      refine Cl.by (v' := .tup [ndV 2 3 1 ⟨⟨a1, ad1, e1⟩, q.v, ⟨a2, ad2, e2⟩⟩ x', .int .i64 fun _ => 0]) (hp' := appL [.res fun _ => SpaceR b db σ3] (ndL ⟨⟨a1, ad1, e1⟩, q.v, ⟨a2, ad2, e2⟩⟩ x' true)) [.one 0, .one 11, .one 10, .one 4] 1 hb rfl rfl (nodup_of rfl) rfl ?_ rfl ?_
       ⟨⟨⟨a1, ad1, e1⟩, q.v, ⟨a2, ad2, e2⟩⟩, x', ls', σ3, pg3, rfl, rfl, hrem.le (by omega)⟩
      ·cbv
       exact rf
      ·cbv
       exact rf
    ·have hsh := shut_any b db 3 (h + 1) 1 r σ2 pg2 (x.kids.take c ++ (x.kids.drop (c + 1) ++ E)) (gk qy y) (gv qy y) (gd qy y) y lsy (by rw [← hy3]; exact ng_gk) hy.nr (by unfold least; rw [if_neg (by omega)]; omega) (by omega) (by rw [← hy3]; exact hn) hy.inv (hRm2.le (by omega))
     refine .no (decide_eq_false om) ?_
     cbv
     refine cP hΓ (inner_yes (gk qy y) (gv qy y) (gd qy y)) [7, 8, 6] ?_
     rintro x hp' ⟨rfl, rfl⟩
     refine ⟨rfl, ?_⟩
     cbv
     refine .no (decide_eq_false om) ?_
     cbv
     refine cP hΓ (hsh) [0, 7, 8, 6] ?_
     rintro x hp' ⟨σ3, pg3, Q, a1, ad1, a2, ad2, e1, e2, rfl, rfl, hS, hQ⟩
     refine ⟨rfl, ?_⟩
     cbv
     have hrem := hup σ3 pg3 Q hS hQ
     have hwi := with_ok b2 3 c 1 q x ⟨3, swapL x.keys c (Q.map fun q => hd q.2), [], swapL x.kids c (Q.map fun q => q.1)⟩ (Q.map fun q => hd q.2) (Q.map fun q => q.1) a1 ad1 a2 ad2 e1 e2 (by rw [List.length_map, hQ]) (by rw [List.length_map, hQ]) (by omega) (by omega) (by omega) (by omega) (by omega) rfl rfl
     obtain ⟨x', hx'⟩ : ∃ x' : Nd, x' = ⟨3, swapL x.keys c (Q.map fun q => hd q.2), [], swapL x.kids c (Q.map fun q => q.1)⟩ := ⟨_, rfl⟩
     rw [← hx'] at hrem hwi
     unfold wiL at hwi
     refine cP hΓ (hwi) [5, 2, 3, 4, 10, 11] ?_
     rintro x hp' ⟨b1', bd1, b2', bd2, f1, f2, rfl, rfl⟩
     refine ⟨rfl, ?_⟩
     cbv
     have ht1 : x'.tag = 3 := by rw [hx']
     have hv1 : x'.vals = [] := by rw [hx']
     have hvv : x.vals = x'.vals := by rw [hv0, hv1]
     have hvl : x.vals.length = x'.vals.length := by rw [hvv]
     refine Cl.by (v' := .tup [ndV 2 3 1 ⟨⟨b1', bd1, f1⟩, q.v, ⟨b2', bd2, f2⟩⟩ x', .int .i64 fun _ => 0]) (hp' := appL [.res fun _ => SpaceR b db σ3] (ndL ⟨⟨b1', bd1, f1⟩, q.v, ⟨b2', bd2, f2⟩⟩ x' true)) [.one 0, .one 13, .one 12, .one 4] 1 hb rfl rfl (nodup_of rfl) rfl ?_ rfl ?_
      ⟨⟨⟨b1', bd1, f1⟩, q.v, ⟨b2', bd2, f2⟩⟩, x', _, σ3, _, rfl, rfl, hrem⟩
     ·cbv
      exact rf
     ·cbv
      exact rf
end Go.Proofs.YtfoffehokhkohaaGreat
set_option maxRecDepth 20000
namespace Go.Proofs.YtfoffehokhkohaaGreat
open Go
variable [VPg]
theorem FnSpec.no {f : FuncId} {hp : List Ch} {args : List SV} {b db key : Nat} {σ : Sp} {l : Ent} (H : FnSpec Tryz.prog f hp args (LookR b db σ key l)) (hno : ∀ v, (key, v) ∉ l) : FnSpec Tryz.prog f hp args (fun y hp => y = .tup [.int .u64 fun _ => 0, .int .i64 fun _ => 5] ∧ hp = [.res fun _ => SpaceR b db σ]) := by
 refine H.mono ?_
 rintro y hp ⟨h1, ⟨v, hv, _⟩ | ⟨_, h2⟩⟩
 ·exact absurd hv (hno v)
 ·exact ⟨h2, h1⟩
theorem FnSpec.yes {f : FuncId} {hp : List Ch} {args : List SV} {b db key val : Nat} {σ : Sp} {l : Ent} (H : FnSpec Tryz.prog f hp args (LookR b db σ key l)) (hm : (key, val) ∈ l) : FnSpec Tryz.prog f hp args (fun y hp => ∃ v, y = .tup [.int .u64 fun _ => toI v, .int .i64 fun _ => 0] ∧ hp = [.res fun _ => SpaceR b db σ]) := by
 refine H.mono ?_
 rintro y hp ⟨h1, ⟨v, hv, h2⟩ | ⟨hno, _⟩⟩
 ·exact ⟨v, h2, h1⟩
 ·exact absurd hm (hno val)
theorem delete_none (b db key : Nat) (σ : Sp) :
  FnSpec Tryz.prog 14 [.res fun _ => SpaceR b db σ] [.pt fun _ => ⟨b, 0, none⟩, .int .u32 fun _ => toI 0, .int .u64 fun _ => toI key] (fun y hp => y = .tup [.int .u32 fun _ => toI 0, .int .i64 fun _ => 5] ∧ hp = [.res fun _ => SpaceR b db σ]) := by
 refine spec_cl mixed F14 rfl rfl rfl (fun Γ hΓ hb => ?_)
 cbv
 refine cP hΓ ((look_none b db key σ).no (by simp)) [0] ?_
 rintro x hp' ⟨rfl, rfl⟩
 refine ⟨rfl, ?_⟩
 cbv
 refine .yes (neT (by decide)) ?_
 cbv
 exact Cl.tk 1 hb rfl rfl rfl ⟨rfl, rfl⟩
theorem delete_not (b db n h key : Nat) (r : Bool) (σ : Sp) (pg : PG) (E : List Nat) (l : Ent) (hI : Inv σ pg E) (hl : live σ n = true) (hR : Rep pg r h n l) (he : EntOk l) (hkey : key < 18446744073709551616) (hh : h ≤ 15) (hno : ∀ v, (key, v) ∉ l) :
  FnSpec Tryz.prog 14 [.res fun _ => SpaceR b db σ] [.pt fun _ => ⟨b, 0, none⟩, .int .u32 fun _ => toI n, .int .u64 fun _ => toI key] (fun y hp => y = .tup [.int .u32 fun _ => toI 0, .int .i64 fun _ => 5] ∧ hp = [.res fun _ => SpaceR b db σ]) := by
 refine spec_cl mixed F14 rfl rfl rfl (fun Γ hΓ hb => ?_)
 cbv
 refine cP hΓ ((tree_Lookup b db n h key r σ pg E l hI hl hR he hkey hh).no hno) [0] ?_
 rintro x hp' ⟨rfl, rfl⟩
 refine ⟨rfl, ?_⟩
 cbv
 refine .yes (neT (by decide)) ?_
 cbv
 exact Cl.tk 1 hb rfl rfl rfl ⟨rfl, rfl⟩
theorem tree_Delete (b db n h key val : Nat) (r : Bool) (σ : Sp) (pg : PG) (E : List Nat) (l : Ent) (hI : Inv σ pg (n :: E)) (hR : Rep pg r h n l) (he : EntOk l) (hE : E.length ≤ 20000) (hkey : key < 18446744073709551616) (hh : h ≤ 15) (hm : (key, val) ∈ l) (hRm : Room σ (2 * h + 3)) :
  FnSpec Tryz.prog 14 [.res fun _ => SpaceR b db σ] [.pt fun _ => ⟨b, 0, none⟩, .int .u32 fun _ => toI n, .int .u64 fun _ => toI key] (TreeR b db σ pg E r (ecut l key) (2 * h + 2)) := by
 have hl : live σ n = true := hI.live_ext List.mem_cons_self
 have hlk := (tree_Lookup b db n h key r σ pg _ l hI hl hR he hkey hh).yes hm
 have hre := tree_remove b db key val r hkey h n σ pg E l hI hR he hm (by omega) hRm
 obtain ⟨l', hl'⟩ : ∃ l', l' = ecut l key := ⟨_, rfl⟩
 rw [← hl'] at hre ⊢
 obtain ⟨c, hc⟩ : ∃ c, c = 2 * h + 2 := ⟨_, rfl⟩
 rw [← hc]
 have hrt : ∀ (σ3 : Sp) (pg3 : PG) (q : NQ) (x : Nd) (ls : List Ent), Rem σ pg E r h l' (2 * h) σ3 pg3 x ls → FnSpec Tryz.prog 43 (psL b db σ3 (gk q x) (gv q x) (gd q x)) [.agg [.int .u8 fun _ => toI x.tag, gsV 1 (gk q x), gsV 2 (gv q x), gsV 3 (gd q x)], .pt fun _ => ⟨b, 0, none⟩, .int .i64 fun _ => toI 1]
   (fun y hp => ∃ (n : Nat) (σ' : Sp) (pg' : PG), y = .tup [.int .u32 fun _ => toI n, .int .i64 fun _ => 0] ∧ hp = psL b db σ' (gk q x) (gv q x) (gd q x) ∧ Step c σ σ' ∧ Keep pg pg' E ∧ (l' = [] ∧ n = 0 ∧ Inv σ' pg' E ∨ ∃ h, Inv σ' pg' (n :: E) ∧ Rep pg' r h n l')) := by
  intro σ3 pg3 q x ls H
  by_cases h0 : ls.length = 0
  ·have hls : ls = [] := List.eq_nil_of_length_eq_zero h0
   have hz : h = 0 := by
    by_cases hz : h = 0
    ·exact hz
    ·have := H.least hz; omega
   have hN := H.nr
   have hfl := H.fl
   subst hls hz
   refine (root_none b db x.tag 1 r σ3 pg3 E (gk q x) (gv q x) (gd q x) x ng_gk hN H.inv).mono ?_
   rintro y hp ⟨m, σ', pg', w1, w2, w3, w4, w5⟩
   rw [← hfl]
   exact ⟨m, σ', pg', w1, w2, (H.step.trans w3).le (by omega), H.keep.trans w4, w5⟩
  ·have hm6 := most6 H.inv.ok x.tag
   have hmh := most_hi H.inv.ok x.tag
   have hfit : ls.length ≤ mostE σ3 x.tag := by rw [mostE_step H.step]; exact H.fit
   obtain ⟨d1, d2, d3, d4⟩ := cutN_ok (m := ls.length) (fit := mostE σ3 x.tag) (by omega) (by omega)
   have hn : cutN ls.length (mostE σ3 x.tag) = 1 := by
    rcases Nat.lt_or_ge 1 (cutN ls.length (mostE σ3 x.tag)) with h | h
    ·have : 1 * mostE σ3 x.tag ≤ (cutN ls.length (mostE σ3 x.tag) - 1) * mostE σ3 x.tag := Nat.mul_le_mul_right _ (by omega)
     omega
    ·omega
   have := tree_root b db r E ls.length h x.tag 1 9 σ3 pg3 (gk q x) (gv q x) (gd q x) x ls (Nat.le_refl _) ng_gk H.nr (by omega) (by omega) (by omega) (by omega) H.inv (by rw [hn]; exact Room.step (j := 2 * h) (k := 3) hRm H.step)
   rw [H.fl] at this
   refine this.mono ?_
   rintro y hp ⟨m, σ', pg', w1, w2, w3, w4, w5⟩
   rw [hn] at w3
   exact ⟨m, σ', pg', w1, w2, (H.step.trans w3).le (by omega), H.keep.trans w4, w5⟩
 refine spec_cl mixed F14 rfl rfl rfl (fun Γ hΓ hb => ?_)
 cbv
 refine cP hΓ (hlk) [0] ?_
 rintro x hp' ⟨v, rfl, rfl⟩
 refine ⟨rfl, ?_⟩
 cbv
 refine .no (neF rfl) ?_
 cbv
 refine cP hΓ (hre) [0] ?_
 rintro x hp' ⟨q2, x2, ls2, σ3, pg3, rfl, rfl, hrem⟩
 refine ⟨rfl, ?_⟩
 cbv
 intro b1
 cbv
 refine .no (neF rfl) ?_
 cbv
 refine cP hΓ (hrt σ3 pg3 q2 x2 ls2 hrem) [0, 2, 3, 1] ?_
 rintro x hp' ⟨m, σ4, pg4, rfl, rfl, k1, k2, k3⟩
 refine ⟨rfl, ?_⟩
 cbv
 exact Cl.tk 1 hb rfl rfl rfl ⟨m, σ4, pg4, rfl, rfl, k1, k2, k3⟩
end Go.Proofs.YtfoffehokhkohaaGreat
set_option maxRecDepth 20000
namespace Go.Proofs.YtfoffehokhkohaaGreat
open Go
variable [VPg]
def nilG : Gs := ⟨none, 0, 0, 0, none, 0, 0, []⟩
def BuildR (b db : Nat) (k v : Gs) (σ : Sp) (pg : PG) (E : List Nat) (r : Bool) (l : Ent) (c : Nat) : KV := fun y hp => ∃ (n : Nat) (σ' : Sp) (pg' : PG),
 y = .tup [.int .u32 fun _ => toI n, .int .i64 fun _ => 0] ∧ hp = [.res fun _ => SpaceR b db σ', gsL .u64 k, gsL .u64 v] ∧ Step c σ σ' ∧ Keep pg pg' E ∧
 (l = [] ∧ n = 0 ∧ Inv σ' pg' E ∨ ∃ h, Inv σ' pg' (n :: E) ∧ Rep pg' r h n l)
set_option maxHeartbeats 1000000 in
theorem tree_Build (b db c : Nat) (σ : Sp) (pg : PG) (E : List Nat) (k v : Gs) (l : Ent) (hg : NG 4 k v nilG (leafNd false l)) (he : EntOk l) (hn : l.length ≤ 30000) (hI : Inv σ pg E) (hc : c = 2 * cutN l.length (mostE σ 4)) (hRm : Room σ (c + 1)) :
  FnSpec Tryz.prog 15 [.res fun _ => SpaceR b db σ, gsL .u64 k, gsL .u64 v] [.pt fun _ => ⟨b, 0, none⟩, .ff, gsV 1 k, gsV 2 v] (BuildR b db k v σ pg E false l c) := by
 obtain ⟨x, hx⟩ : ∃ x, x = leafNd false l := ⟨_, rfl⟩
 rw [← hx] at hg
 have hlen := hg.lens
 obtain ⟨l1, l2, l3, l4⟩ := hlen
 have hkl : x.keys.length = l.length := by rw [hx]; show (l.map _).length = _; rw [List.length_map]
 have hvl : x.vals.length = l.length := by rw [hx]; show (l.map _).length = _; rw [List.length_map]
 have hxk : x.kids = [] := by rw [hx]; rfl
 have hNR : NR pg false 0 x (l.map fun e => [e]) := ⟨l, rfl, hx, by rw [hxk]; simp⟩
 have hkf := hg.gk.fits
 have hkn := hg.gk.len
 have hvf := hg.gv.fits
 have hkk : ∀ i, i < l.length → k.l.getD (k.off + i) 0 = x.keys.getD i 0 := fun i hi => by
  have e1 : x.keys = subl k.l k.off k.len := by rw [hg.eq]; rfl
  rw [e1]
  unfold subl
  rw [List.getD_eq_getElem?_getD, List.getD_eq_getElem?_getD, List.getElem?_take, if_pos (by omega), List.getElem?_drop]
 have hasc : ∀ i, 0 < i → i < l.length → k.l.getD (k.off + (i - 1)) 0 < k.l.getD (k.off + i) 0 := fun i h0 hi => by
  rw [hkk _ hi, hkk _ (by omega)]
  have hs : x.keys.Pairwise (· < ·) := by rw [hx]; exact he.srt
  rw [List.getD_eq_getElem?_getD, List.getD_eq_getElem?_getD, List.getElem?_eq_getElem (by omega), List.getElem?_eq_getElem (by omega)]
  exact List.pairwise_iff_getElem.1 hs (i - 1) i (by omega) (by omega) (by omega)
 have hrt : FnSpec Tryz.prog 43 (psL b db σ k v nilG) [.agg [.int .u8 fun _ => toI 4, gsV 1 k, gsV 2 v, gsV 3 nilG], .pt fun _ => ⟨b, 0, none⟩, .int .i64 fun _ => toI 1] (RootR b db k v nilG σ pg E false l c) := by
  by_cases h0 : l.length = 0
  ·have hl0 : l = [] := List.eq_nil_of_length_eq_zero h0
   subst hl0
   refine (root_none b db 4 1 false σ pg E k v nilG x hg hNR (by rw [hxk]; exact hI)).mono ?_
   rintro y hp ⟨m, σ', pg', w1, w2, w3, w4, w5⟩
   exact ⟨m, σ', pg', w1, w2, w3.le (Nat.zero_le _), w4, w5⟩
  ·have := tree_root b db false E (l.map fun e => [e]).length 0 4 1 15 σ pg k v nilG x (l.map fun e => [e]) (Nat.le_refl _) hg hNR (by rw [List.length_map]; omega) (by rw [List.length_map]; omega) (by rw [List.length_map]; omega) (by omega) (by rw [hxk]; exact hI) (by rw [List.length_map, ← hc]; exact hRm)
   rw [List.length_map, ← hc, flatten_single] at this
   exact this
 obtain ⟨n, hn2⟩ : ∃ n, n = l.length := ⟨_, rfl⟩
 have e1 : k.len = n := by omega
 have e2 : v.len = n := by omega
 rw [← hn2] at hasc hkk hn
 refine spec_cl mixed F15 rfl rfl rfl (fun Γ hΓ hb => ?_)
 cbv
 refine .no (neF (by rw [e1, e2])) ?_
 cbv
 refine cP hΓ (tag_ok false) [] ?_
 rintro x hp' ⟨rfl, rfl⟩
 refine ⟨rfl, ?_⟩
 cbv
 intro b1
 cbv
 refine loopJ (α := Nat) (fun i => i ≤ n)
  (fun i => ⟨69, [(0, .pt fun _ => ⟨b, 0, none⟩), (1, .ff), (2, gsV 1 k), (10, .bp 3 0), (25, gsV 2 v), (26, .int .i64 fun _ => toI n), (27, .int .i64 fun _ => toI i)],
   [.res fun _ => SpaceR b db σ, gsL .u64 k, gsL .u64 v, .box b1 90 [.int .u8 fun _ => toI 4, gsV 1 k, gsV 2 v, .nils] true], []⟩)
  (fun i => n - i) 0 (Nat.zero_le _) (sub2 [0, 1, 2, 3] 3 hb rfl rfl rfl rfl rfl rfl rfl rfl ?_) ?_
 ·cbv
  (repeat' first | with_reducible rfl | exact (show Ch.base _ = _ from rfl) | ((try simp only [toI, inI, List.length_nil] at *); omega) | exact trivial | refine ⟨?_, ?_⟩ | refine ⟨?_⟩ | intro _)
  all_goals rfl
 intro i hi
 cbv
 refine ⟨fun hlt => ?_, fun hlt => ?_⟩
 ·replace hlt := toI_lt hlt
  cbv
  repeat ((first | refine VC.mk rf ?_ | refine ADD.mk rf ?_); cbv)
  by_cases h0 : i = 0
  ·refine .no (decide_eq_false om) ?_
   cbv
   refine .mk rf ?_
   cbv
   refine ⟨i + 1, by omega, show n - (i + 1) < n - i by omega, sub2 [0, 1, 2, 3] 3 hb rfl rfl rfl rfl rfl rfl rfl rfl ?_⟩
   cbv
   exact rf
  ·refine .yes (decide_eq_true om) ?_
   cbv
   repeat ((first | refine VC.mk rf ?_ | refine ADD.mk rf ?_); cbv)
   rw [show k.off + (toI i - 1).toNat = k.off + (i - 1) by exact om, show k.off + (toI i).toNat = k.off + i from rfl]
   have hlt2 := hasc i (by omega) hlt
   refine .no (decide_eq_false om) ?_
   cbv
   refine .mk rf ?_
   cbv
   refine ⟨i + 1, by omega, show n - (i + 1) < n - i by omega, sub2 [0, 1, 2, 3] 3 hb rfl rfl rfl rfl rfl rfl rfl rfl ?_⟩
   cbv
   exact rf
 ·replace hlt := toI_nlt hlt
  cbv
  refine callP_nil [.nat .u32] (args' := [.agg [.int .u8 fun _ => toI 4, gsV 1 k, gsV 2 v, gsV 4 nilG], .pt fun _ => ⟨b, 0, none⟩, .int .i64 fun _ => toI 1]) rfl (by cbv; exact rf) ?_
  refine cP hΓ (hrt) [0, 1, 2, 4] ?_
  rintro x hp' ⟨m, σ', pg', rfl, rfl, q1, q2, q3⟩
  refine ⟨rfl, ?_⟩
  cbv
  exact Cl.tk 3 hb rfl rfl rfl ⟨m, σ', pg', rfl, rfl, q1, q2, q3⟩
theorem build_long (b db : Nat) (σ : Sp) (k : Gs) (hk : k.len ≠ 0) :
  FnSpec Tryz.prog 15 [.res fun _ => SpaceR b db σ, gsL .u64 k] [.pt fun _ => ⟨b, 0, none⟩, .ff, gsV 1 k, .nils] (fun y hp => y = .tup [.int .u32 fun _ => toI 0, .int .i64 fun _ => 2] ∧ hp = [.res fun _ => SpaceR b db σ, gsL .u64 k]) := by
 refine spec_cl mixed F15 rfl rfl rfl (fun Γ hΓ hb => ?_)
 cbv
 refine .yes (neT om) ?_
 cbv
 exact Cl.tk 2 hb rfl rfl rfl ⟨rfl, rfl⟩
theorem build_nil (b db : Nat) (r : Bool) (σ : Sp) (pg : PG) (E : List Nat) (hI : Inv σ pg E) :
  FnSpec Tryz.prog 15 [.res fun _ => SpaceR b db σ] [.pt fun _ => ⟨b, 0, none⟩, bV r, .nils, .nils] (fun y hp => y = .tup [.int .u32 fun _ => toI 0, .int .i64 fun _ => 0] ∧ ∃ σ' pg', hp = [.res fun _ => SpaceR b db σ'] ∧ Step 0 σ σ' ∧ Keep pg pg' E ∧ Inv σ' pg' E) := by
 have hrt := root_none b db (leafTag r) 1 r σ pg E nilG nilG nilG (leafNd r []) ⟨⟨Nat.le_refl _, rfl⟩, ⟨Nat.le_refl _, rfl⟩, ⟨Nat.le_refl _, rfl⟩, by cases r <;> rfl⟩ ⟨[], rfl, rfl, by cases r <;> simp [leafNd]⟩ (by cases r <;> exact hI)
 have hT := tag_ok r
 have hr2 := hrt.mono (R' := fun y hp => ∃ (σ' : Sp) (pg' : PG), y = .tup [.int .u32 fun _ => toI 0, .int .i64 fun _ => 0] ∧ hp = psL b db σ' nilG nilG nilG ∧ Step 0 σ σ' ∧ Keep pg pg' E ∧ Inv σ' pg' E) (by
  rintro y hp ⟨n, σ', pg', h1, h2, h3, h4, ⟨_, h5, h6⟩ | ⟨h, _, h6⟩⟩
  ·subst h5; exact ⟨σ', pg', h1, h2, h3, h4, h6⟩
  ·exact absurd rfl h6.ne)
 clear hrt
 generalize leafTag r = t at hr2 hT
 cases r
 all_goals
  refine spec_cl mixed F15 rfl rfl rfl (fun Γ hΓ hb => ?_)
  cbv
  refine .no (neF rfl) ?_
  cbv
  refine cP hΓ (hT) [] ?_
  rintro x hp' ⟨rfl, rfl⟩
  refine ⟨rfl, ?_⟩
  cbv
  intro b1
  cbv
  refine loopJ (α := Unit) (fun _ => True)
   (fun _ => ⟨69, [(0, .pt fun _ => ⟨b, 0, none⟩), (10, .bp 1 0), (26, .int .i64 fun _ => 0), (27, .int .i64 fun _ => 0)],
    [.res fun _ => SpaceR b db σ, .box b1 90 [.int .u8 fun _ => toI t, .nils, .nils, .nils] true], []⟩)
   (fun _ => 0) () trivial (sub2 [0, 1] 1 hb rfl rfl rfl rfl rfl rfl rfl rfl ?_) ?_
  ·cbv
   exact rf
  intro i hi
  cbv
  refine ⟨fun hlt => absurd hlt (by decide), fun hlt => ?_⟩
  cbv
  refine callP_nil [.nat .u64] (args' := [.agg [.int .u8 fun _ => toI t, gsV 2 nilG, .nils, .nils], .pt fun _ => ⟨b, 0, none⟩, .int .i64 fun _ => toI 1]) rfl (by cbv; exact rf) ?_
  refine callP_nil [.nat .u64] (args' := [.agg [.int .u8 fun _ => toI t, gsV 2 nilG, gsV 3 nilG, .nils], .pt fun _ => ⟨b, 0, none⟩, .int .i64 fun _ => toI 1]) rfl (by cbv; exact rf) ?_
  refine callP_nil [.nat .u32] (args' := [.agg [.int .u8 fun _ => toI t, gsV 2 nilG, gsV 3 nilG, gsV 4 nilG], .pt fun _ => ⟨b, 0, none⟩, .int .i64 fun _ => toI 1]) rfl (by cbv; exact rf) ?_
  cbv
  refine cP hΓ (hr2) [0, 2, 3, 4] ?_
  rintro x hp' ⟨σ', pg', rfl, rfl, q1, q2, q3⟩
  refine ⟨rfl, ?_⟩
  cbv
  exact Cl.tk 1 hb rfl rfl rfl ⟨rfl, σ', pg', rfl, q1, q2, q3⟩
theorem build_bad (b db : Nat) (σ : Sp) (k v : Gs) (hk : GsOk k) (hv : GsOk v) (h2 : 2 ≤ k.len) (hkv : v.len = k.len) (hle : k.l.getD (k.off + 1) 0 ≤ k.l.getD (k.off + 0) 0) :
  FnSpec Tryz.prog 15 [.res fun _ => SpaceR b db σ, gsL .u64 k, gsL .u64 v] [.pt fun _ => ⟨b, 0, none⟩, .ff, gsV 1 k, gsV 2 v] (fun y hp => y = .tup [.int .u32 fun _ => toI 0, .int .i64 fun _ => 2] ∧ hp = [.res fun _ => SpaceR b db σ, gsL .u64 k, gsL .u64 v]) := by
 have k1 := hk.fits
 have v1 := hv.fits
 have hk2 := hk.len
 obtain ⟨n, hn⟩ : ∃ n, n = k.len := ⟨_, rfl⟩
 refine spec_cl mixed F15 rfl rfl rfl (fun Γ hΓ hb => ?_)
 cbv
 refine .no (neF (by rw [hkv])) ?_
 cbv
 refine cP hΓ (tag_ok false) [] ?_
 rintro x hp' ⟨rfl, rfl⟩
 refine ⟨rfl, ?_⟩
 cbv
 intro b1
 cbv
 refine loopJ (α := Nat) (fun i => i ≤ 1)
  (fun i => ⟨69, [(0, .pt fun _ => ⟨b, 0, none⟩), (1, .ff), (2, gsV 1 k), (10, .bp 3 0), (25, gsV 2 v), (26, .int .i64 fun _ => toI v.len), (27, .int .i64 fun _ => toI i)],
   [.res fun _ => SpaceR b db σ, gsL .u64 k, gsL .u64 v, .box b1 90 [.int .u8 fun _ => toI 4, gsV 1 k, gsV 2 v, .nils] true], []⟩)
  (fun i => 2 - i) 0 (Nat.zero_le _) (sub2 [0, 1, 2, 3] 3 hb rfl rfl rfl rfl rfl rfl rfl rfl ?_) ?_
 ·cbv
  (repeat' first | with_reducible rfl | exact (show Ch.base _ = _ from rfl) | ((try simp only [toI, inI, List.length_nil] at *); omega) | exact trivial | refine ⟨?_, ?_⟩ | refine ⟨?_⟩ | intro _)
  all_goals rfl
 intro i hi
 cbv
 refine ⟨fun hlt => ?_, fun hlt => ?_⟩
 ·cbv
  repeat ((first | refine VC.mk rf ?_ | refine ADD.mk rf ?_); cbv)
  by_cases h0 : i = 0
  ·refine .no (decide_eq_false om) ?_
   cbv
   refine .mk rf ?_
   cbv
   refine ⟨i + 1, by omega, show 2 - (i + 1) < 2 - i by omega, sub2 [0, 1, 2, 3] 3 hb rfl rfl rfl rfl rfl rfl rfl rfl ?_⟩
   cbv
   exact rf
  ·have h1 : i = 1 := by omega
   subst h1
   refine .yes (decide_eq_true om) ?_
   cbv
   repeat ((first | refine VC.mk rf ?_ | refine ADD.mk rf ?_); cbv)
   refine .yes (decide_eq_true ?_) ?_
   ·show toI (k.l.getD (k.off + 1) 0) ≤ toI (k.l.getD (k.off + 0) 0)
    simp only [toI]
    omega
   cbv
   exact Cl.tk 3 hb rfl rfl rfl ⟨rfl, rfl⟩
 ·replace hlt := toI_nlt hlt
  omega
end Go.Proofs.YtfoffehokhkohaaGreat
namespace Go.Proofs.YtfoffehokhkohaaGreat
open Go
variable [VPg]
theorem flat_ge {c : Nat} : ∀ {ls : List Ent}, (∀ m ∈ ls, c ≤ m.length) → ls.length * c ≤ ls.flatten.length
 | [], _ => by simp
 | a :: ls, h => by
  have h1 := flat_ge (ls := ls) fun m hm => h m (List.mem_cons_of_mem _ hm)
  have h2 := h a List.mem_cons_self
  rw [List.flatten_cons, List.length_append, List.length_cons, Nat.succ_mul]
  omega
theorem Rep.pow {pg : PG} {r : Bool} : ∀ {h n : Nat} {l : Ent}, Rep pg r h n l → 2 ^ h ≤ l.length
 | 0, n, l, H => by
  have := List.length_pos_iff.2 H.ne
  rw [Nat.pow_zero]; exact this
 | h + 1, n, l, ⟨x, ls, ⟨ks, h1, h2, h3⟩, h4, h5, h6⟩ => by
  subst h5
  have hall : ∀ m ∈ ls, 2 ^ h ≤ m.length := fun m hm => by
   obtain ⟨i, hi⟩ := List.mem_iff_getElem?.1 hm
   have hil : i < ls.length := (List.getElem?_eq_some_iff.1 hi).1
   exact (h3 (ks[i], m) (mem_zip (List.getElem?_eq_getElem (by omega)) hi)).pow
  have e1 := flat_ge hall
  have e2 : 2 ≤ ls.length := h6
  have e3 := Nat.mul_le_mul_right (2 ^ h) e2
  rw [Nat.pow_succ]; omega
def Clo (pg : PG) (r : Bool) (T : List Nat) (l : Ent) : Prop := ∀ m ∈ T, ∀ k ∈ (pg m).kids, k ∈ T ∨ r = true ∧ k ∈ l.map (·.2)
theorem pages_all {pg : PG} {r : Bool} {P : Nat → Ent → Prop} (hP : ∀ n l, P n l → ∃ T : List Nat, T.length + 1 ≤ 2 * l.length ∧ n ∈ T ∧ Clo pg r T l) :
  ∀ (ks : List Nat) (ls : List Ent), ks.length = ls.length → (∀ p ∈ ks.zip ls, P p.1 p.2) → ∃ T : List Nat, T.length + ks.length ≤ 2 * ls.flatten.length ∧ (∀ k ∈ ks, k ∈ T) ∧ Clo pg r T ls.flatten
 | [], [], _, _ => ⟨[], by simp, by simp, fun m hm => by cases hm⟩
 | k :: ks, a :: ls, hl, h => by
  obtain ⟨T, t1, t2, t3⟩ := pages_all hP ks ls (by simpa using hl) fun p hp => h p (List.mem_cons_of_mem _ hp)
  obtain ⟨U, u1, u2, u3⟩ := hP k a (h (k, a) List.mem_cons_self)
  refine ⟨U ++ T, ?_, ?_, fun m hm j hj => ?_⟩
  ·rw [List.length_append, List.length_cons, List.flatten_cons, List.length_append]; omega
  ·intro j hj
   rcases List.mem_cons.1 hj with rfl | hj
   ·exact List.mem_append_left _ u2
   ·exact List.mem_append_right _ (t2 j hj)
  ·rw [List.flatten_cons, List.map_append]
   rcases List.mem_append.1 hm with hm | hm
   ·rcases u3 m hm j hj with h | ⟨h0, h⟩
    ·exact .inl (List.mem_append_left _ h)
    ·exact .inr ⟨h0, List.mem_append_left _ h⟩
   ·rcases t3 m hm j hj with h | ⟨h0, h⟩
    ·exact .inl (List.mem_append_right _ h)
    ·exact .inr ⟨h0, List.mem_append_right _ h⟩
theorem Rep.pages {pg : PG} {r : Bool} : ∀ {h n : Nat} {l : Ent}, Rep pg r h n l → ∃ T : List Nat, T.length + 1 ≤ 2 * l.length ∧ n ∈ T ∧ Clo pg r T l
 | 0, n, l, H => by
  have hne := List.length_pos_iff.2 H.ne
  obtain ⟨x, ls, ⟨l1, h0, h1, _⟩, h4, h5, h6⟩ := H
  rw [h0, flatten_single] at h5
  subst h5
  refine ⟨[n], by rw [List.length_singleton]; omega, List.mem_singleton.2 rfl, fun m hm k hk => ?_⟩
  rw [List.mem_singleton.1 hm, h4, h1] at hk
  cases r with
  | true => exact .inr ⟨rfl, hk⟩
  | false => cases hk
 | h + 1, n, l, ⟨x, ls, ⟨ks, h1, h2, h3⟩, h4, h5, h6⟩ => by
  subst h5
  obtain ⟨T, t1, t2, t3⟩ := pages_all (P := Rep pg r h) (fun n l H => H.pages) ks ls h2 h3
  have e2 : 2 ≤ ls.length := h6
  refine ⟨n :: T, by rw [List.length_cons]; omega, List.mem_cons_self, fun m hm k hk => ?_⟩
  rcases List.mem_cons.1 hm with rfl | hm
  ·rw [h4, h1] at hk
   exact .inl (List.mem_cons_of_mem _ (t2 k hk))
  ·rcases t3 m hm k hk with h | h
   ·exact .inl (List.mem_cons_of_mem _ h)
   ·exact .inr h
theorem Rep.values {pg : PG} : ∀ {h n : Nat} {l : Ent}, Rep pg true h n l → ∀ v ∈ l.map (·.2), pg v = VPg.vp
 | 0, n, l, ⟨x, ls, ⟨l1, h0, h1, hv⟩, h4, h5, h6⟩ => by
  rw [h0, flatten_single] at h5
  subst h5
  intro v hm
  exact hv v (by rw [h1]; exact hm)
 | h + 1, n, l, ⟨x, ls, ⟨ks, h1, h2, h3⟩, h4, h5, h6⟩ => by
  subst h5
  intro v hm
  obtain ⟨e, he, rfl⟩ := List.mem_map.1 hm
  obtain ⟨m, hm1, hm2⟩ := List.mem_flatten.1 he
  obtain ⟨i, hi⟩ := List.mem_iff_getElem?.1 hm1
  have hil : i < ls.length := (List.getElem?_eq_some_iff.1 hi).1
  exact (h3 (ks[i], m) (mem_zip (List.getElem?_eq_getElem (by omega)) hi)).values _ (List.mem_map_of_mem (f := (·.2)) hm2)
theorem Rch.down {pg : PG} {n m : Nat} (H : Rch pg [n] m) : m = n ∨ ∃ k ∈ (pg n).kids, Rch pg [k] m := by
 induction H with
 | root h => exact .inl (List.mem_singleton.1 h)
 | kid _ hk ih =>
  rcases ih with rfl | ⟨k, h1, h2⟩
  ·exact .inr ⟨_, hk, .root (List.mem_singleton.2 rfl)⟩
  ·exact .inr ⟨k, h1, .kid h2 hk⟩
theorem Rch.one {pg : PG} {E : List Nat} {m : Nat} (H : Rch pg E m) : ∃ n ∈ E, Rch pg [n] m := by
 induction H with
 | root h => exact ⟨_, h, .root (List.mem_singleton.2 rfl)⟩
 | kid _ hk ih => obtain ⟨n, h1, h2⟩ := ih; exact ⟨n, h1, .kid h2 hk⟩
theorem Rep.tags {pg : PG} : ∀ {h n : Nat} {l : Ent}, Rep pg false h n l → ∀ m, Rch pg [n] m → (pg m).tag = 3 ∨ (pg m).tag = 4
 | 0, n, l, ⟨x, ls, ⟨l1, h0, h1, hv⟩, h4, h5, h6⟩ => fun m hm => by
  rcases hm.down with rfl | ⟨k, h, _⟩
  ·rw [h4, h1]; exact .inr rfl
  ·rw [h4, h1] at h; cases h
 | h + 1, n, l, ⟨x, ls, ⟨ks, h1, h2, h3⟩, h4, h5, h6⟩ => fun m hm => by
  rcases hm.down with rfl | ⟨k, hk, hr⟩
  ·rw [h4, h1]; exact .inl rfl
  ·rw [h4, h1] at hk
   obtain ⟨i, hi⟩ := List.mem_iff_getElem?.1 (show k ∈ ks from hk)
   have hil : i < ks.length := (List.getElem?_eq_some_iff.1 hi).1
   exact (h3 (k, ls[i]) (mem_zip hi (List.getElem?_eq_getElem (by omega)))).tags m hr
def Hold (pg : PG) (r : Bool) (root : Nat) (l : Ent) : Prop := (l = [] ∧ root = 0) ∨ (root ≠ 0 ∧ ∃ h, Rep pg r h root l)
theorem Hold.none (pg : PG) (r : Bool) : Hold pg r 0 [] := .inl ⟨rfl, rfl⟩
theorem Hold.keep {pg pg' : PG} {r : Bool} {root : Nat} {l : Ent} (H : Hold pg r root l) (hk : Keep pg pg' (nz [root])) : Hold pg' r root l := by
 rcases H with H | ⟨h0, h, H⟩
 ·exact .inl H
 ·exact .inr ⟨h0, h, H.keep (hk.mono fun m hm => by rw [nz_cons _ _ h0]; exact List.mem_cons.2 (.inl (List.mem_singleton.1 hm)))⟩
theorem Hold.pages {pg : PG} {r : Bool} {root : Nat} {l : Ent} (H : Hold pg r root l) (hv : r = true → ∀ v ∈ l.map (·.2), (pg v).kids = []) :
  ∃ T : List Nat, T.length ≤ (if r = true then 3 else 2) * l.length ∧ (∀ n ∈ nz [root], n ∈ T) ∧ ∀ m ∈ T, ∀ k ∈ (pg m).kids, k ∈ T := by
 rcases H with ⟨rfl, rfl⟩ | ⟨h0, h, H⟩
 ·exact ⟨[], by simp, fun n hn => (by rw [nz_zero] at hn; cases hn), fun m hm => by cases hm⟩
 ·obtain ⟨T, t1, t2, t3⟩ := H.pages
  rw [nz_cons _ _ h0]
  have hr : ∀ n ∈ root :: nz [], n ∈ T := fun n hn => by
   rcases List.mem_cons.1 hn with rfl | hn
   ·exact t2
   ·cases hn
  cases r with
  | false => exact ⟨T, by rw [if_neg (by simp)]; omega, hr, fun m hm k hk => (t3 m hm k hk).elim id fun h => absurd h.1 (by simp)⟩
  | true =>
   refine ⟨T ++ l.map (·.2), by rw [if_pos rfl, List.length_append, List.length_map]; omega, fun n hn => List.mem_append_left _ (hr n hn), fun m hm k hk => ?_⟩
   rcases List.mem_append.1 hm with hm | hm
   ·exact (t3 m hm k hk).elim (List.mem_append_left _) fun h => List.mem_append_right _ h.2
   ·rw [hv rfl m hm] at hk; cases hk
theorem Hold.app {pg : PG} {T U E F : List Nat} (h1 : ∀ n ∈ E, n ∈ T) (h2 : ∀ m ∈ T, ∀ k ∈ (pg m).kids, k ∈ T) (g1 : ∀ n ∈ F, n ∈ U) (g2 : ∀ m ∈ U, ∀ k ∈ (pg m).kids, k ∈ U) :
  (∀ n ∈ E ++ F, n ∈ T ++ U) ∧ ∀ m ∈ T ++ U, ∀ k ∈ (pg m).kids, k ∈ T ++ U :=
 ⟨fun n hn => (List.mem_append.1 hn).elim (fun h => List.mem_append_left _ (h1 n h)) fun h => List.mem_append_right _ (g1 n h),
  fun m hm k hk => (List.mem_append.1 hm).elim (fun h => List.mem_append_left _ (h2 m h k hk)) fun h => List.mem_append_right _ (g2 m h k hk)⟩
theorem nodup_le : ∀ {l m : List Nat}, l.Nodup → (∀ a ∈ l, a ∈ m) → l.length ≤ m.length
 | [], _, _, _ => Nat.zero_le _
 | a :: l, m, hn, hs => by
  rw [List.nodup_cons] at hn
  have h1 := nodup_le (l := l) (m := m.erase a) hn.2 fun b hb => (List.mem_erase_of_ne (by rintro rfl; exact hn.1 hb)).2 (hs b (List.mem_cons_of_mem _ hb))
  have h2 := hs a List.mem_cons_self
  have h3 := List.length_pos_of_mem h2
  rw [List.length_erase_of_mem h2] at h1
  rw [List.length_cons]; omega
theorem Inv.free_ge {σ : Sp} {pg : PG} {E : List Nat} (H : Inv σ pg E) (T : List Nat) (h1 : ∀ n ∈ E, n ∈ T) (h2 : ∀ m ∈ T, ∀ k ∈ (pg m).kids, k ∈ T) : σ.blocks ≤ free σ + (2 + (σ.sup.length + T.length)) := by
 have hr : ∀ m, Rch pg E m → m ∈ T := fun m r => by
  induction r with
  | root h => exact h1 _ h
  | kid _ hk ih => exact h2 _ ih _ hk
 have := nodup_le (l := List.range σ.blocks) (m := spFr σ σ.blocks ++ ([0, 1] ++ (σ.sup ++ T))) List.nodup_range fun n hn => by
  have hn := List.mem_range.1 hn
  by_cases ha : spAsked σ n = true
  ·by_cases h0 : σ.now.getD n 0 = 0
   ·refine List.mem_append_left _ (List.mem_filter.2 ⟨List.mem_range.2 hn, ?_⟩)
    rw [h0, H.held n hn, if_pos ha, decide_eq_true (asked_lt ha).1]
    rfl
   ·exact List.mem_append_right _ (List.mem_append_right _ (List.mem_append_right _ (hr n (H.reach_live (live_mk ha h0)))))
  ·refine List.mem_append_right _ ?_
   unfold spAsked at ha
   simp only [Bool.and_eq_true, decide_eq_true_eq, Bool.not_eq_true', List.contains_eq_mem, decide_eq_false_iff_not] at ha
   by_cases h2 : n < 2
   ·refine List.mem_append_left _ ?_
    match n, h2 with
    | 0, _ => simp
    | 1, _ => simp
   ·refine List.mem_append_right _ (List.mem_append_left _ ?_)
    by_cases h3 : n ∈ σ.sup
    ·exact h3
    ·exact absurd ⟨by omega, hn, h3⟩ ha
 rw [List.length_range] at this
 simp only [List.length_append, List.length_cons, List.length_nil] at this
 unfold free
 omega
theorem fmt_live (size blocks n : Nat) (dur : List Bytes) : live (spFmt size blocks dur) n = false := by
 cases h : live (spFmt size blocks dur) n with
 | false => rfl
 | true =>
  obtain ⟨a1, a2, a3⟩ := asked_lt (live_asked h)
  have h0 := live_now h
  have e : (spFmt size blocks dur).now.getD n 0 = if n < 2 + superN size blocks then 1 else 0 := cFmt_getD _ _ _
  rw [e] at h0
  have : n < 2 + superN size blocks := by
   by_cases h : n < 2 + superN size blocks
   ·exact h
   ·rw [if_neg h] at h0; exact absurd rfl h0
  exact absurd (show n ∈ List.range' 2 (superN size blocks) from List.mem_range'_1.2 ⟨a1, this⟩) a3
theorem inv_fmt (size blocks : Nat) (dur : List Bytes) (pg : PG) (g : GeoOk size blocks) (hN : 2 + superN size blocks ≤ blocks) (hs : size * blocks ≤ 65536) (hd : dur.length = blocks) : Inv (spFmt size blocks dur) pg [] := by
 have hb5 := g.h5
 have hk : ∀ k, k ∉ kidsAll (spFmt size blocks dur) pg := fun k hk => by
  obtain ⟨m, hm, _⟩ := mem_kidsAll.1 hk
  rw [fmt_live] at hm; cases hm
 have hown : ∀ n, n < blocks → spAsked (spFmt size blocks dur) n = false → n < 2 + superN size blocks := fun n hn ha => by
  have := hn
  by_cases h : n < 2 + superN size blocks
  ·exact h
  ·have : spAsked (spFmt size blocks dur) n = true := by
    unfold spAsked
    rw [decide_eq_true (by omega), decide_eq_true (show n < (spFmt size blocks dur).blocks from hn)]
    have : n ∉ (spFmt size blocks dur).sup := fun h' => by
     have := List.mem_range'_1.1 (show n ∈ List.range' 2 (superN size blocks) from h')
     omega
    simpa using this
   rw [this] at ha; cases ha
 have hnot : ∀ n, spAsked (spFmt size blocks dur) n = true → ¬ n < 2 + superN size blocks := fun n ha h => by
  obtain ⟨a1, a2, a3⟩ := asked_lt ha
  exact a3 (show n ∈ List.range' 2 (superN size blocks) from List.mem_range'_1.2 ⟨a1, h⟩)
 refine ⟨⟨g, (by decide : 1 < 9223372036854775808), (by decide : 0 < 4294967296), (by decide : 0 < 2), List.length_range', fun n hn => ?_, cFmt_ok _ _ hN hb5, cFmt_ok _ _ hN hb5, cFmt_length _ _ hN, cFmt_length _ _ hN, ?_, (by decide : 0 < 900000000), fun p hp => by cases hp⟩, hs, fun n hn => ?_, fun n hn => ?_, fun n hn => (by cases hn), fun m hm => ?_, ⟨fun _ => 0, fun m hm => ?_⟩, fun n hn ha => ?_, fun n hn => ?_⟩
 ·have := List.mem_range'_1.1 (show n ∈ List.range' 2 (superN size blocks) from hn)
  exact ⟨this.1, show n < blocks by omega⟩
 ·show (flushD _ _).length = blocks
  rw [flushD_length, flushD_length]; exact hd
 ·rw [fmt_live] at hn; cases hn
 ·rw [List.nil_append, List.count_eq_zero.2 (hk n)]
  show (cFmt _ _).getD n 0 = 0
  rw [cFmt_getD, if_neg (hnot n hn)]
 ·rw [fmt_live] at hm; cases hm
 ·rw [fmt_live] at hm; cases hm
 ·show (cFmt _ _).getD n 0 = 1
  rw [cFmt_getD, if_pos (hown n hn ha)]
 ·show (cFmt _ _).getD n 0 = _
  rw [cFmt_getD]
  cases ha : spAsked (spFmt size blocks dur) n with
  | true => rw [if_neg (hnot n ha), if_pos rfl]
  | false => rw [if_pos (hown n hn ha), if_neg (by simp)]
end Go.Proofs.YtfoffehokhkohaaGreat
set_option maxRecDepth 20000
namespace Go.Proofs.YtfoffehokhkohaaGreat
open Go
variable [VPg]
end Go.Proofs.YtfoffehokhkohaaGreat
set_option maxRecDepth 20000
namespace Go.Proofs.YtfoffehokhkohaaGreat
open Go
variable [VPg]
structure EX where
 ad : Option Addr
 n : Nat
 e : Nat
 ks : List Nat
 vs : List Nat
def eA (q : EX) : Ch := .arr q.ad (fun _ => q.n) (fun _ => q.e) [.nat .u64 fun _ => q.ks, .nat .u64 fun _ => q.vs] false
def eL (b db b3 b4 b5 root fr : Nat) (X : EX) (σ : Sp) : List Ch := [.res fun _ => SpaceR b db σ, eA X, .box b3 24 [.pt fun _ => ⟨b, 0, none⟩] true, .box b4 30 [.int .u32 fun _ => toI root] true, .box b5 34 [.int .u64 fun _ => toI fr] true]
end Go.Proofs.YtfoffehokhkohaaGreat
set_option maxRecDepth 20000
namespace Go.Proofs.YtfoffehokhkohaaGreat
open Go
variable [VPg]
theorem pow_small {h n : Nat} (h1 : 2 ^ h ≤ n) (h2 : n ≤ 100) : h ≤ 6 := by
 rcases Nat.lt_or_ge 6 h with h3 | h3
 ·have := Nat.pow_le_pow_right (n := 2) (by omega) (show 7 ≤ h from h3)
  omega
 ·exact h3
def HoldR (b db : Nat) (σ : Sp) (pg : PG) (E : List Nat) (r : Bool) (l : Ent) (c : Nat) : KV := fun y hp => ∃ (n : Nat) (σ' : Sp) (pg' : PG),
 y = .tup [.int .u32 fun _ => toI n, .int .i64 fun _ => 0] ∧ hp = [.res fun _ => SpaceR b db σ'] ∧ Step c σ σ' ∧ Keep pg pg' E ∧ Inv σ' pg' (nz [n] ++ E) ∧ Hold pg' r n l
theorem nz1 {n : Nat} (h : n ≠ 0) : nz [n] = [n] := by rw [nz_cons _ _ h]; rfl
theorem TreeR.hold {b db : Nat} {σ : Sp} {pg : PG} {E : List Nat} {r : Bool} {l : Ent} {c d : Nat} (hcd : c ≤ d) (y : SV) (hp : List Ch) (H : TreeR b db σ pg E r l c y hp) : HoldR b db σ pg E r l d y hp := by
 obtain ⟨n, σ', pg', h1, h2, h3, h4, ⟨h5, h6, h7⟩ | ⟨h, h5, h6⟩⟩ := H
 ·subst h6
  exact ⟨0, σ', pg', h1, h2, h3.le hcd, h4, h7, .inl ⟨h5, rfl⟩⟩
 ·have h0 : n ≠ 0 := by have := (asked_lt (live_asked (h5.live_ext List.mem_cons_self))).1; omega
  exact ⟨n, σ', pg', h1, h2, h3.le hcd, h4, by rw [nz1 h0]; exact h5, .inr ⟨h0, h, h6⟩⟩
variable {b db root key val : Nat} {r : Bool} {σ : Sp} {pg : PG} {E : List Nat} {l : Ent}
theorem h_insert (hI : Inv σ pg (nz [root] ++ (refV r val ++ E))) (hpv : r = true → pg val = VPg.vp) (H : Hold pg r root l) (he : EntOk l) (hl : l.length ≤ 100) (hE : E.length ≤ 20000) (hRm : Room σ 17) (hkey : key < 18446744073709551616) (hval : val < 18446744073709551616) (hv2 : r = true → val < 4294967296) :
  FnSpec Tryz.prog 12 [.res fun _ => SpaceR b db σ] [.pt fun _ => ⟨b, 0, none⟩, .int .u32 fun _ => toI root, bV r, .int .u64 fun _ => toI key, .int .u64 fun _ => toI val] (HoldR b db σ pg E r (eput l key val) 16) := by
 rcases H with ⟨rfl, rfl⟩ | ⟨h0, h, H⟩
 ·exact (insert_new b db key val r σ pg E hI hpv (by omega) (hRm.le (by omega)) hkey hval hv2).mono (TreeR.hold (by omega))
 ·rw [nz1 h0] at hI
  have h6 := pow_small H.pow hl
  exact (insert_more b db root h key val r σ pg E l hI hpv H he hE h6 (hRm.le (by omega)) hkey hval hv2).mono (TreeR.hold (by omega))
theorem h_delete (hI : Inv σ pg (nz [root] ++ E)) (H : Hold pg r root l) (he : EntOk l) (hl : l.length ≤ 100) (hE : E.length ≤ 20000) (hRm : Room σ 17) (hkey : key < 18446744073709551616) (hm : (key, val) ∈ l) :
  FnSpec Tryz.prog 14 [.res fun _ => SpaceR b db σ] [.pt fun _ => ⟨b, 0, none⟩, .int .u32 fun _ => toI root, .int .u64 fun _ => toI key] (HoldR b db σ pg E r (ecut l key) 16) := by
 rcases H with ⟨rfl, rfl⟩ | ⟨h0, h, H⟩
 ·cases hm
 ·rw [nz1 h0] at hI
  have h6 := pow_small H.pow hl
  exact (tree_Delete b db root h key val r σ pg E l hI H he hE hkey (by omega) hm (hRm.le (by omega))).mono (TreeR.hold (by omega))
theorem Hold.live (H : Hold pg r root l) (hI : Inv σ pg E) (hE : ∀ n ∈ nz [root], n ∈ E) (h0 : root ≠ 0) : live σ root = true := hI.live_ext (hE root (by rw [nz1 h0]; exact List.mem_cons_self))
theorem h_delete_no (hI : Inv σ pg E) (H : Hold pg r root l) (hE : ∀ n ∈ nz [root], n ∈ E) (he : EntOk l) (hl : l.length ≤ 100) (hkey : key < 18446744073709551616) (hno : ∀ v, (key, v) ∉ l) :
  FnSpec Tryz.prog 14 [.res fun _ => SpaceR b db σ] [.pt fun _ => ⟨b, 0, none⟩, .int .u32 fun _ => toI root, .int .u64 fun _ => toI key] (fun y hp => y = .tup [.int .u32 fun _ => toI 0, .int .i64 fun _ => 5] ∧ hp = [.res fun _ => SpaceR b db σ]) := by
 rcases id H with ⟨rfl, rfl⟩ | ⟨h0, h, H'⟩
 ·exact delete_none b db key σ
 ·have h6 := pow_small H'.pow hl
  exact delete_not b db root h key r σ pg E l hI (H.live hI hE h0) H' he hkey (by omega) hno
theorem h_look (hI : Inv σ pg E) (H : Hold pg r root l) (hE : ∀ n ∈ nz [root], n ∈ E) (he : EntOk l) (hl : l.length ≤ 100) (hkey : key < 18446744073709551616) :
  FnSpec Tryz.prog 13 [.res fun _ => SpaceR b db σ] [.pt fun _ => ⟨b, 0, none⟩, .int .u32 fun _ => toI root, .int .u64 fun _ => toI key] (LookR b db σ key l) := by
 rcases id H with ⟨rfl, rfl⟩ | ⟨h0, h, H'⟩
 ·exact look_none b db key σ
 ·have h6 := pow_small H'.pow hl
  exact tree_Lookup b db root h key r σ pg E l hI (H.live hI hE h0) H' he hkey (by omega)
theorem EntOk.one (he : EntOk l) {k v w : Nat} (h1 : (k, v) ∈ l) (h2 : (k, w) ∈ l) : v = w := by
 obtain ⟨i, hi⟩ := List.mem_iff_getElem?.1 h1
 obtain ⟨j, hj⟩ := List.mem_iff_getElem?.1 h2
 obtain ⟨h3, h4⟩ := List.getElem?_eq_some_iff.1 hi
 obtain ⟨h5, h6⟩ := List.getElem?_eq_some_iff.1 hj
 have key : ∀ p q (hp : p < l.length) (hq : q < l.length), p < q → l[p].1 < l[q].1 := fun p q hp hq h => List.pairwise_iff_getElem.1 he.pw p q hp hq h
 rcases Nat.lt_trichotomy i j with h | h | h
 ·have := key i j h3 h5 h; rw [h4, h6] at this; exact absurd this (Nat.lt_irrefl _)
 ·subst h; rw [hi] at hj; cases hj; rfl
 ·have := key j i h5 h3 h; rw [h4, h6] at this; exact absurd this (Nat.lt_irrefl _)
theorem h_look_yes (hI : Inv σ pg E) (H : Hold pg r root l) (hE : ∀ n ∈ nz [root], n ∈ E) (he : EntOk l) (hl : l.length ≤ 100) (hkey : key < 18446744073709551616) (hm : (key, val) ∈ l) :
  FnSpec Tryz.prog 13 [.res fun _ => SpaceR b db σ] [.pt fun _ => ⟨b, 0, none⟩, .int .u32 fun _ => toI root, .int .u64 fun _ => toI key] (fun y hp => y = .tup [.int .u64 fun _ => toI val, .int .i64 fun _ => 0] ∧ hp = [.res fun _ => SpaceR b db σ]) := by
 refine (h_look hI H hE he hl hkey).mono ?_
 rintro y hp ⟨h1, ⟨v, h2, h3⟩ | ⟨h2, _⟩⟩
 ·cases he.one hm h2
  exact ⟨h3, h1⟩
 ·exact absurd hm (h2 _)
theorem h_len (hI : Inv σ pg E) (H : Hold pg r root l) (hE : ∀ n ∈ nz [root], n ∈ E) (he : EntOk l) (hl : l.length ≤ 100) :
  FnSpec Tryz.prog 17 [.res fun _ => SpaceR b db σ] [.pt fun _ => ⟨b, 0, none⟩, .int .u32 fun _ => toI root] (fun y hp => y = .tup [.int .i64 fun _ => toI l.length, .int .i64 fun _ => 0] ∧ hp = [.res fun _ => SpaceR b db σ]) := by
 rcases id H with ⟨rfl, rfl⟩ | ⟨h0, h, H'⟩
 ·exact len_none b db σ
 ·have h6 := pow_small H'.pow hl
  exact tree_Len b db root h r σ pg E l hI (H.live hI hE h0) H' he (by omega) (by omega)
theorem h_check (hI : Inv σ pg E) (H : Hold pg r root l) (hE : ∀ n ∈ nz [root], n ∈ E) (he : EntOk l) (hl : l.length ≤ 100) :
  FnSpec Tryz.prog 18 [.res fun _ => SpaceR b db σ] [.pt fun _ => ⟨b, 0, none⟩, .int .u32 fun _ => toI root] (fun y hp => y = .int .i64 (fun _ => 0) ∧ hp = [.res fun _ => SpaceR b db σ]) := by
 rcases id H with ⟨rfl, rfl⟩ | ⟨h0, h, H'⟩
 ·exact check_none b db σ
 ·have h6 := pow_small H'.pow hl
  exact tree_Check b db root h r σ pg E l hI (H.live hI hE h0) H' he (by omega) (by omega)
theorem law_roomy : FnSpec Tryz.prog 11 [] [] (fun v hp => v = .agg [.int .i64 fun _ => toI 128, .int .i64 fun _ => toI 40] ∧ hp = []) := by
 refine spec_cl mixed F11 rfl rfl rfl (fun Γ hΓ hb => ?_)
 cbv
 intro b1
 cbv
 exact Cl.tk 0 hb rfl rfl rfl ⟨rfl, rfl⟩
theorem law_made (size blocks : Nat) (g : GeoOk size blocks) (hN : 2 + superN size blocks ≤ blocks) (hf : 14 + 4 * superN size blocks ≤ size - 16) (hs : size * blocks ≤ 65536) :
  FnSpec Tryz.prog 10 [] [.agg [.int .i64 fun _ => toI size, .int .i64 fun _ => toI blocks]]
   (fun v hp => ∃ (b db : Nat) (σ : Sp), v = .tup [.pt fun _ => ⟨db, 0, none⟩, .pt fun _ => ⟨b, 0, none⟩] ∧ hp = [.res fun _ => SpaceR b db σ] ∧ σ = spFmt size blocks (List.replicate blocks (List.replicate size 0))) := by
 have hn := dev_New size blocks g
 obtain ⟨du, hdu⟩ : ∃ du : List Bytes, du = List.replicate blocks (List.replicate size (0 : UInt8)) := ⟨_, rfl⟩
 have hF := fun db => space_Format db size blocks du g hN hf (by rw [hdu, List.length_replicate])
 rw [← hdu] at hn ⊢
 revert hF
 generalize hσ : spFmt size blocks du = σ
 intro hF
 refine spec_cl mixed F10 rfl rfl rfl (fun Γ hΓ hb => ?_)
 cbv
 intro b1
 cbv
 refine cP hΓ (hn) [] ?_
 rintro x hp' ⟨db, rfl, rfl⟩
 refine ⟨rfl, ?_⟩
 cbv
 refine cP hΓ (hF db) [1] ?_
 rintro x hp' ⟨b, rfl, rfl⟩
 refine ⟨rfl, ?_⟩
 cbv
 refine .no (neF rfl) ?_
 cbv
 refine Cl.by (v' := .tup [.pt fun _ => ⟨db, 0, none⟩, .pt fun _ => ⟨b, 0, none⟩]) (hp' := [.res fun _ => SpaceR b db σ]) [.one 1] 0 hb rfl rfl (nodup_of rfl) rfl ?_ rfl ?_ ⟨b, db, σ, rfl, rfl, rfl⟩
 all_goals
  cbv
  exact rf
end Go.Proofs.YtfoffehokhkohaaGreat
set_option maxRecDepth 20000
namespace Go.Proofs.YtfoffehokhkohaaGreat
open Go
variable [VPg]
variable {b db root : Nat} {r : Bool} {σ : Sp} {pg : PG} {E : List Nat} {l : Ent}
end Go.Proofs.YtfoffehokhkohaaGreat
