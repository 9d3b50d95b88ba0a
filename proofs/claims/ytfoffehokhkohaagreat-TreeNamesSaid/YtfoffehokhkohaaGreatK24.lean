/- Part 24 of what is proved in the last text (packed by a program of mine). -/
import Derived.Test.YtfoffehokhkohaaGreatK11
import Derived.Test.YtfoffehokhkohaaGreatK12
import Derived.Test.YtfoffehokhkohaaGreatK13
import Derived.Test.YtfoffehokhkohaaGreatK22
import Derived.Test.YtfoffehokhkohaaGreatK23
set_option linter.all false
set_option maxRecDepth 20000
namespace Go.Proofs.YtfoffehokhkohaaGreat
open Go
variable [VPg]
structure GsOk (g : Gs) : Prop where
 fits : g.off + g.len ≤ g.N
 len : g.l.length = g.N
theorem GsOk.sub {g : Gs} (h : GsOk g) : (subl g.l g.off g.len).length = g.len := subl_length _ _ _ (by rw [h.len]; exact h.fits)
structure NG (tag : Nat) (k v d : Gs) (x : Nd) : Prop where
 gk : GsOk k
 gv : GsOk v
 gd : GsOk d
 eq : x = gNd tag k v d
theorem NG.lens {tag : Nat} {k v d : Gs} {x : Nd} (h : NG tag k v d x) : k.len = x.keys.length ∧ v.len = x.vals.length ∧ d.len = x.kids.length ∧ x.tag = tag := by
 rw [h.eq]
 exact ⟨h.gk.sub.symm, h.gv.sub.symm, h.gd.sub.symm, rfl⟩
theorem shut_any (b db tag h n : Nat) (r : Bool) (σ0 : Sp) (pg0 : PG) (E : List Nat) (k v d : Gs) (x : Nd) (ls : List Ent) (hg : NG tag k v d x) (hN : NR pg0 r h x ls) (hle : least h ≤ ls.length) (hm : ls.length ≤ 100000) (hn : cutN ls.length (mostE σ0 tag) = n)
  (hI : Inv σ0 pg0 (x.kids ++ E)) (hR : Room σ0 (n + 1)) :
  FnSpec Tryz.prog 96 (psL b db σ0 k v d) [.agg [.int .u8 fun _ => toI tag, gsV 1 k, gsV 2 v, gsV 3 d], .pt fun _ => ⟨b, 0, none⟩] (ShutR b db k v d σ0 pg0 E r h x ls n) := by
 obtain ⟨l1, l2, l3, l4⟩ := hg.lens
 have hk := hN.keys
 have hkl : x.keys.length = ls.length := by rw [hk, List.length_map]
 have hv := hN.vals
 have hd := hN.kids
 have h1 : 1 ≤ ls.length := by unfold least at hle; split at hle <;> omega
 by_cases hc : h = 0 ∧ r = false
 ·obtain ⟨rfl, rfl⟩ := hc
  have ht : tag = 4 := by rw [← l4, hN.tag]; rfl
  subst ht
  rw [hg.eq] at hN hI ⊢
  exact shut_leaf b db ls.length n _ σ0 pg0 E k v d ls hg.gk.fits hg.gk.len hg.gd.fits hg.gd.len hg.gv.fits hg.gv.len (by omega) (by rw [if_pos ⟨rfl, rfl⟩] at hv; omega) (by rw [if_pos ⟨rfl, rfl⟩] at hd; omega) h1 hm hN rfl rfl hn hI hR
 ·have ht : tag ≠ 4 := by
   rw [← l4, hN.tag]
   split
   ·rename_i h0
    unfold leafTag
    cases r with
    | true => decide
    | false => exact absurd ⟨h0, rfl⟩ hc
   ·decide
  rw [if_neg hc] at hv hd
  rw [hg.eq] at hN hI ⊢
  exact shut_kids b db tag h ls.length n _ r σ0 pg0 E k v d ls hg.gk.fits hg.gk.len hg.gd.fits hg.gd.len hg.gv.fits hg.gv.len (by omega) (by omega) (by omega) ht h1 hm hN hle rfl rfl hn hI hR
def RootR (b db : Nat) (k v d : Gs) (σ : Sp) (pg : PG) (E : List Nat) (r : Bool) (l : Ent) (c : Nat) : KV := fun y hp => ∃ (n : Nat) (σ' : Sp) (pg' : PG),
 y = .tup [.int .u32 fun _ => toI n, .int .i64 fun _ => 0] ∧ hp = psL b db σ' k v d ∧ Step c σ σ' ∧ Keep pg pg' E ∧
 (l = [] ∧ n = 0 ∧ Inv σ' pg' E ∨ ∃ h, Inv σ' pg' (n :: E) ∧ Rep pg' r h n l)
theorem root_none (b db tag deep : Nat) (r : Bool) (σ : Sp) (pg : PG) (E : List Nat) (k v d : Gs) (x : Nd) (hg : NG tag k v d x) (hN : NR pg r 0 x []) (hI : Inv σ pg (x.kids ++ E)) :
  FnSpec Tryz.prog 43 (psL b db σ k v d) [.agg [.int .u8 fun _ => toI tag, gsV 1 k, gsV 2 v, gsV 3 d], .pt fun _ => ⟨b, 0, none⟩, .int .i64 fun _ => toI deep] (RootR b db k v d σ pg E r [] 0) := by
 obtain ⟨l1, l2, l3, l4⟩ := hg.lens
 have hkl : k.len = 0 := by rw [l1, hN.keys]; rfl
 have hkd : x.kids = [] := by
  obtain ⟨m, hm, rfl, _⟩ := hN
  have : m = [] := by cases m; rfl; cases hm
  subst this
  cases r <;> rfl
 rw [hkd] at hI
 refine spec_cl mixed F43 rfl rfl rfl (fun Γ hΓ hb => ?_)
 cbv
 intro bx
 cbv
 refine .yes (eqT om) ?_
 cbv
 exact Cl.tk 4 hb rfl rfl rfl ⟨0, σ, pg, rfl, rfl, Step.refl _, Keep.refl _ _, .inl ⟨rfl, rfl, hI⟩⟩
theorem root_one (b db deep h : Nat) (r : Bool) (σ : Sp) (pg : PG) (E : List Nat) (k v d : Gs) (x : Nd) (l : Ent) (hg : NG 3 k v d x) (hN : NR pg r (h + 1) x [l]) (hI : Inv σ pg (x.kids ++ E)) :
  FnSpec Tryz.prog 43 (psL b db σ k v d) [.agg [.int .u8 fun _ => toI 3, gsV 1 k, gsV 2 v, gsV 3 d], .pt fun _ => ⟨b, 0, none⟩, .int .i64 fun _ => toI deep] (RootR b db k v d σ pg E r l 0) := by
 obtain ⟨l1, l2, l3, l4⟩ := hg.lens
 obtain ⟨ks, hx, h2, h3⟩ := hN
 obtain ⟨q, rfl⟩ : ∃ q, ks = [q] := by
  match ks, h2 with
  | [q], _ => exact ⟨q, rfl⟩
 have hkl : k.len = 1 := by rw [l1, hx]; rfl
 have hdl : d.len = 1 := by rw [l3, hx]; rfl
 have hkd : x.kids = [q] := by rw [hx]
 have hrep : Rep pg r h q l := h3 (q, l) (by simp)
 rw [hkd] at hI
 have hq : d.l.getD (d.off + (0 : Int).toNat) 0 = q := by
  have e1 : subl d.l d.off d.len = [q] := by
   have : x.kids = subl d.l d.off d.len := by rw [hg.eq]; rfl
   rw [← this, hkd]
  have e2 : (subl d.l d.off d.len).getD 0 0 = q := by rw [e1]; rfl
  unfold subl at e2
  rw [List.getD_eq_getElem?_getD, List.getElem?_take, if_pos (by omega), List.getElem?_drop] at e2
  rw [List.getD_eq_getElem?_getD]
  exact e2
 have hd1 := hg.gd.fits
 refine spec_cl mixed F43 rfl rfl rfl (fun Γ hΓ hb => ?_)
 cbv
 intro bx
 cbv
 refine .no (eqF om) ?_
 cbv
 refine cP hΓ (inner_yes k v d) [1, 2, 3] ?_
 rintro x hp' ⟨rfl, rfl⟩
 refine ⟨rfl, ?_⟩
 cbv
 refine .yes (eqT om) ?_
 cbv
 repeat ((first | refine VC.mk rf ?_ | refine ADD.mk rf ?_); cbv)
 rw [hq]
 refine Cl.tk 4 hb rfl rfl rfl ⟨q, σ, pg, rfl, rfl, Step.refl _, Keep.refl _ _, .inr ⟨h, hI, hrep⟩⟩
theorem subl_all {α : Type} (l : List α) (n : Nat) (h : l.length = n) : subl l 0 n = l := by
 unfold subl; rw [List.drop_zero]; exact List.take_of_length_le (Nat.le_of_eq h)
theorem zip_maps {α β γ : Type} (f : α → β) (g : α → γ) (l : List α) : (l.map f).zip (l.map g) = l.map fun a => (f a, g a) := by
 induction l with
 | nil => rfl
 | cons a l ih => simp [ih]
theorem Shut.up {σ0 σ : Sp} {pg0 pg : PG} {E : List Nat} {r : Bool} {h : Nat} {x : Nd} {ls : List Ent} {Q : List (Nat × Ent)} (H : Shut σ0 pg0 E r h x ls ls.length σ pg Q) (hk : x.kids.length ≤ ls.length) :
  NR pg r (h + 1) ⟨3, Q.map fun q => hd q.2, [], Q.map fun q => q.1⟩ (Q.map fun q => q.2) ∧ Inv σ pg ((Q.map fun q => q.1) ++ E) ∧ (Q.map fun q => q.2).flatten = ls.flatten := by
 refine ⟨⟨Q.map fun q => q.1, by rw [List.map_map]; rfl, by simp, fun p hp => ?_⟩, ?_, by rw [H.all, List.take_length]⟩
 ·rw [zip_maps] at hp
  obtain ⟨q, hq, rfl⟩ := List.mem_map.1 hp
  exact H.rep q hq
 ·have := H.inv
  rw [List.drop_of_length_le hk, List.nil_append] at this
  exact this
theorem cutN_half {n f : Nat} (hn : 2 ≤ n) (hf : 6 ≤ f) : 2 * cutN n f ≤ n := by
 obtain ⟨c1, c2, c3, c4⟩ := cutN_ok (m := n) (fit := f) (by omega) (by omega)
 have : (cutN n f - 1) * 6 ≤ (cutN n f - 1) * f := Nat.mul_le_mul_left _ hf
 omega
theorem most6 {σ : Sp} (h : SpOk σ) (tag : Nat) : 6 ≤ mostE σ tag := by
 have := h.geo.h1
 have hR : spRoom σ 0 = σ.size - 18 := by unfold spRoom; rw [if_neg (by omega)]; omega
 unfold mostE
 rw [hR]
 split <;> omega
set_option maxHeartbeats 1000000 in
theorem tree_root (b db : Nat) (r : Bool) (E : List Nat) : ∀ (M h tag deep j : Nat) (σ : Sp) (pg : PG) (k v d : Gs) (x : Nd) (ls : List Ent), ls.length ≤ M → NG tag k v d x → NR pg r h x ls → 1 ≤ ls.length → ls.length ≤ 100000 → ls.length ≤ 2 ^ j → deep + j ≤ 16 →
  Inv σ pg (x.kids ++ E) → Room σ (2 * cutN ls.length (mostE σ tag) + 1) →
  FnSpec Tryz.prog 43 (psL b db σ k v d) [.agg [.int .u8 fun _ => toI tag, gsV 1 k, gsV 2 v, gsV 3 d], .pt fun _ => ⟨b, 0, none⟩, .int .i64 fun _ => toI deep] (RootR b db k v d σ pg E r ls.flatten (2 * cutN ls.length (mostE σ tag))) := by
 intro M
 induction M with
 | zero => intro h tag deep j σ pg k v d x ls h1 _ _ h2; omega
 | succ M IH =>
 intro h tag deep j σ pg k v d x ls hM hg hN h1 hmx hj hdj hI hR
 obtain ⟨l1, l2, l3, l4⟩ := hg.lens
 have htag := hN.tag
 rw [l4] at htag
 have hkeys : x.keys.length = ls.length := by rw [hN.keys, List.length_map]
 have hkids := hN.kids
 have hf6 := most6 hI.ok tag
 by_cases hone : h ≠ 0 ∧ ls.length = 1
 ·obtain ⟨h, rfl⟩ : ∃ h', h = h' + 1 := ⟨h - 1, by omega⟩
  rw [if_neg (by omega)] at htag
  subst htag
  obtain ⟨l, rfl⟩ : ∃ l, ls = [l] := by
   match ls, hone.2 with
   | [l], _ => exact ⟨l, rfl⟩
  refine (root_one b db deep h r σ pg E k v d x l hg hN hI).mono ?_
  rintro y hp ⟨n, σ', pg', g1, g2, g3, g4, g5⟩
  exact ⟨n, σ', pg', g1, g2, g3.le (Nat.zero_le _), g4, by simpa using g5⟩
 have hle : least h ≤ ls.length := by unfold least; split <;> omega
 obtain ⟨n, hn⟩ : ∃ n, cutN ls.length (mostE σ tag) = n := ⟨_, rfl⟩
 obtain ⟨c1, c2, c3, c4⟩ := cutN_ok (m := ls.length) (fit := mostE σ tag) h1 (by omega)
 rw [hn] at c1 c2 c3 c4 hR ⊢
 have hsh := shut_any b db tag h n r σ pg E k v d x ls hg hN hle hmx hn hI (hR.le (by omega))
 have hrec : ∀ (σ1 : Sp) (pg1 : PG) (Q : List (Nat × Ent)) (a1 ad1 a2 ad2 : Option Addr) (e1 e2 : Nat), Shut σ pg E r h x ls ls.length σ1 pg1 Q → Q.length = n →
   FnSpec Tryz.prog 43 (psL b db σ1 ⟨a1, 0, n, e1, ad1, n, e1, Q.map fun q => hd q.2⟩ ⟨none, 0, 0, 0, none, 0, 0, []⟩ ⟨a2, 0, n, e2, ad2, n, e2, Q.map fun q => q.1⟩) [.agg [.int .u8 fun _ => toI 3, gsV 1 ⟨a1, 0, n, e1, ad1, n, e1, Q.map fun q => hd q.2⟩, gsV 2 ⟨none, 0, 0, 0, none, 0, 0, []⟩, gsV 3 ⟨a2, 0, n, e2, ad2, n, e2, Q.map fun q => q.1⟩], .pt fun _ => ⟨b, 0, none⟩, .int .i64 fun _ => toI (deep + 1)]
    (fun y hp => ∃ (m : Nat) (σ' : Sp) (pg' : PG), y = .tup [.int .u32 fun _ => toI m, .int .i64 fun _ => 0] ∧ hp = psL b db σ' ⟨a1, 0, n, e1, ad1, n, e1, Q.map fun q => hd q.2⟩ ⟨none, 0, 0, 0, none, 0, 0, []⟩ ⟨a2, 0, n, e2, ad2, n, e2, Q.map fun q => q.1⟩ ∧ Step (2 * n) σ σ' ∧ Keep pg pg' E ∧
     (ls.flatten = [] ∧ m = 0 ∧ Inv σ' pg' E ∨ ∃ h, Inv σ' pg' (m :: E) ∧ Rep pg' r h m ls.flatten)) := by
  intro σ1 pg1 Q a1 ad1 a2 ad2 e1 e2 hS hQ
  obtain ⟨u1, u2, u3⟩ := hS.up (by rw [hkids]; split <;> omega)
  have hng : NG 3 ⟨a1, 0, n, e1, ad1, n, e1, Q.map fun q => hd q.2⟩ ⟨none, 0, 0, 0, none, 0, 0, []⟩ ⟨a2, 0, n, e2, ad2, n, e2, Q.map fun q => q.1⟩ ⟨3, Q.map fun q => hd q.2, [], Q.map fun q => q.1⟩ := by
   refine ⟨⟨by show 0 + n ≤ n; omega, by show (Q.map _).length = n; rw [List.length_map]; exact hQ⟩, ⟨by show 0 + 0 ≤ 0; omega, rfl⟩, ⟨by show 0 + n ≤ n; omega, by show (Q.map _).length = n; rw [List.length_map]; exact hQ⟩, ?_⟩
   show (⟨3, Q.map fun q => hd q.2, [], Q.map fun q => q.1⟩ : Nd) = ⟨3, subl (Q.map fun q => hd q.2) 0 n, subl [] 0 0, subl (Q.map fun q => q.1) 0 n⟩
   rw [subl_all (Q.map fun q => hd q.2) n (by rw [List.length_map]; exact hQ), subl_all (Q.map fun q => q.1) n (by rw [List.length_map]; exact hQ)]
   rfl
  have hst := hS.step
  rw [hQ] at hst
  have hkp : Keep pg pg1 E := hS.keep.mono fun m hm => List.mem_append_right _ hm
  rw [← u3]
  by_cases hn1 : n = 1
  ·obtain ⟨l, hl⟩ : ∃ l, (Q.map fun q => q.2) = [l] := by
    have : (Q.map fun q => q.2).length = 1 := by rw [List.length_map]; omega
    exact List.length_eq_one_iff.1 this
   rw [hl] at u1 ⊢
   refine (root_one b db (deep + 1) h r σ1 pg1 E _ _ _ _ l hng u1 u2).mono ?_
   rintro y hp ⟨m, σ', pg', g1, g2, g3, g4, g5⟩
   exact ⟨m, σ', pg', g1, g2, (hst.trans g3).le (by omega), hkp.trans g4, by simpa using g5⟩
  ·have hlen : (Q.map fun q => q.2).length = n := by rw [List.length_map]; exact hQ
   have h6 : (n - 1) * 6 ≤ (n - 1) * mostE σ tag := Nat.mul_le_mul_left _ hf6
   obtain ⟨j, rfl⟩ : ∃ j', j = j' + 1 := ⟨j - 1, by
    cases j with
    | zero => simp at hj; omega
    | succ j => rfl⟩
   rw [Nat.pow_succ] at hj
   have hhalf := cutN_half (n := n) (f := mostE σ1 3) (by omega) (most6 u2.ok 3)
   refine (IH (h + 1) 3 (deep + 1) j σ1 pg1 _ _ _ _ (Q.map fun q => q.2) (by omega) hng u1 (by omega) (by omega) (by omega) (by omega) u2 (by
    rw [hlen]
    exact (Room.step (j := n) (k := n + 1) (hR.le (by omega)) hst).le (by omega))).mono ?_
   rintro y hp ⟨m, σ', pg', g1, g2, g3, g4, g5⟩
   rw [hlen] at g3
   exact ⟨m, σ', pg', g1, g2, (hst.trans g3).le (by omega), hkp.trans g4, g5⟩
 revert hrec
 generalize ls.flatten = L
 generalize 2 * n = c
 intro hrec
 refine spec_cl mixed F43 rfl rfl rfl (fun Γ hΓ hb => ?_)
 cbv
 intro bx
 cbv
 refine .no (eqF om) ?_
 cbv
 by_cases h0 : h = 0
 ·rw [if_pos h0] at htag
  have ht3 : tag ≠ 3 := by rw [htag]; unfold leafTag; split <;> decide
  refine cP hΓ (inner_no tag ht3 k v d) [1, 2, 3] ?_
  rintro x hp' ⟨rfl, rfl⟩
  refine ⟨rfl, ?_⟩
  cbv
  refine .no (decide_eq_false om) ?_
  cbv
  refine cP hΓ (hsh) [0, 1, 2, 3] ?_
  rintro x hp' ⟨σ1, pg1, Q, a1, ad1, a2, ad2, e1, e2, rfl, rfl, hS, hQ⟩
  refine ⟨rfl, ?_⟩
  cbv
  refine .no (neF rfl) ?_
  cbv
  refine .mk rf ?_
  cbv
  refine callP_nil [.nat .u64] (args' := [.agg [.int .u8 fun _ => toI 3, .sl 5 (fun _ => a1) (fun _ => 0) (fun _ => n) (fun _ => e1), .sl 7 (fun _ => none) (fun _ => 0) (fun _ => 0) (fun _ => 0), .sl 6 (fun _ => a2) (fun _ => 0) (fun _ => n) (fun _ => e2)], .pt fun _ => ⟨b, 0, none⟩, .int .i64 fun _ => toI (deep + 1)]) rfl (by cbv; exact rf) ?_
  refine cP hΓ (hrec σ1 pg1 Q a1 ad1 a2 ad2 e1 e2 hS hQ) [0, 5, 7, 6] ?_
  rintro x hp' ⟨m, σ', pg', rfl, rfl, q1, q2, q3⟩
  refine ⟨rfl, ?_⟩
  cbv
  refine Cl.by (v' := .tup [.int .u32 fun _ => toI m, .int .i64 fun _ => 0]) (hp' := psL b db σ' k v d) [.one 0, .one 1, .one 2, .one 3] 4 hb rfl rfl (nodup_of rfl) rfl ?_ rfl ?_ ⟨m, σ', pg', rfl, rfl, q1, q2, q3⟩
  ·cbv
   exact rf
  ·cbv
   exact rf
 ·rw [if_neg h0] at htag
  subst htag
  refine cP hΓ (inner_yes k v d) [1, 2, 3] ?_
  rintro x hp' ⟨rfl, rfl⟩
  refine ⟨rfl, ?_⟩
  cbv
  refine .no (eqF (by rw [if_neg (by omega)] at hkids; exact om)) ?_
  cbv
  refine .no (decide_eq_false om) ?_
  cbv
  refine cP hΓ (hsh) [0, 1, 2, 3] ?_
  rintro x hp' ⟨σ1, pg1, Q, a1, ad1, a2, ad2, e1, e2, rfl, rfl, hS, hQ⟩
  refine ⟨rfl, ?_⟩
  cbv
  refine .no (neF rfl) ?_
  cbv
  refine .mk rf ?_
  cbv
  refine callP_nil [.nat .u64] (args' := [.agg [.int .u8 fun _ => toI 3, .sl 5 (fun _ => a1) (fun _ => 0) (fun _ => n) (fun _ => e1), .sl 7 (fun _ => none) (fun _ => 0) (fun _ => 0) (fun _ => 0), .sl 6 (fun _ => a2) (fun _ => 0) (fun _ => n) (fun _ => e2)], .pt fun _ => ⟨b, 0, none⟩, .int .i64 fun _ => toI (deep + 1)]) rfl (by cbv; exact rf) ?_
  refine cP hΓ (hrec σ1 pg1 Q a1 ad1 a2 ad2 e1 e2 hS hQ) [0, 5, 7, 6] ?_
  rintro x hp' ⟨m, σ', pg', rfl, rfl, q1, q2, q3⟩
  refine ⟨rfl, ?_⟩
  cbv
  refine Cl.by (v' := .tup [.int .u32 fun _ => toI m, .int .i64 fun _ => 0]) (hp' := psL b db σ' k v d) [.one 0, .one 1, .one 2, .one 3] 4 hb rfl rfl (nodup_of rfl) rfl ?_ rfl ?_ ⟨m, σ', pg', rfl, rfl, q1, q2, q3⟩
  ·cbv
   exact rf
  ·cbv
   exact rf
end Go.Proofs.YtfoffehokhkohaaGreat
namespace Go.Proofs.YtfoffehokhkohaaGreat
open Go
variable [VPg]
theorem EntOk.pw {l : Ent} (h : EntOk l) : l.Pairwise fun a b => a.1 < b.1 := List.pairwise_map.1 h.srt
theorem hd_mem {l : Ent} (h : l ≠ []) : ∃ e ∈ l, e.1 = hd l := by
 cases l with
 | nil => exact absurd rfl h
 | cons e l => exact ⟨e, by simp, rfl⟩
theorem hd_le {l : Ent} (h : l.Pairwise fun a b => a.1 < b.1) {e : Nat × Nat} (he : e ∈ l) : hd l ≤ e.1 := by
 cases l with
 | nil => cases he
 | cons a l =>
  rcases List.mem_cons.1 he with rfl | he
  ·exact Nat.le_refl _
  ·exact Nat.le_of_lt (List.rel_of_pairwise_cons h he)
theorem places {ls : List Ent} (he : EntOk ls.flatten) : (∀ l ∈ ls, l.Pairwise fun a b => a.1 < b.1) ∧ ls.Pairwise fun l m => ∀ a ∈ l, ∀ b ∈ m, a.1 < b.1 := List.pairwise_flatten.1 he.pw
theorem heads_lt {ls : List Ent} (he : EntOk ls.flatten) (hne : ∀ l ∈ ls, l ≠ []) : (ls.map hd).Pairwise (· < ·) := he.srt.sublist (hd_sub hne)
theorem cix_ok {ks : List Nat} (hs : ks.Pairwise (· < ·)) (h1 : 1 ≤ ks.length) (key : Nat) : cix ks key < ks.length ∧ (cix ks key = 0 ∨ ks.getD (cix ks key) 0 ≤ key) ∧ (cix ks key + 1 < ks.length → key < ks.getD (cix ks key + 1) 0) := by
 have hmono : ∀ p q, p < q → q < ks.length → ks.getD p 0 < ks.getD q 0 := fun p q h1 h2 => by
  rw [List.getD_eq_getElem?_getD, List.getD_eq_getElem?_getD, List.getElem?_eq_getElem (by omega), List.getElem?_eq_getElem (by omega)]
  exact List.pairwise_iff_getElem.1 hs p q (by omega) (by omega) h1
 have hw := wh_le ks key
 have hlt := fun p => wh_lt (l := ks) (k := key) (p := p)
 have hge := wh_ge (l := ks) (k := key)
 unfold cix
 cases ha : isAt ks key with
 | true =>
  unfold isAt at ha
  rw [Bool.and_eq_true] at ha
  have h2 := of_decide_eq_true ha.1
  have h3 : ks.getD (wh ks key) 0 = key := eq_of_beq ha.2
  rw [if_pos rfl]
  refine ⟨h2, .inr (by omega), fun h => ?_⟩
  have := hmono (wh ks key) (wh ks key + 1) (by omega) h
  omega
 | false =>
  rw [if_neg (by simp)]
  have hna : wh ks key < ks.length → ks.getD (wh ks key) 0 ≠ key := fun h1 h2 => by
   unfold isAt at ha
   rw [decide_eq_true h1, h2] at ha
   simp at ha
  refine ⟨by omega, ?_, fun h => ?_⟩
  ·by_cases h0 : wh ks key = 0
   ·exact .inl (by omega)
   ·exact .inr (Nat.le_of_lt (hlt _ (by omega)))
  ·by_cases h0 : wh ks key = 0
   ·rw [h0] at h hge hna ⊢
    have := hge (by omega)
    have := hna (by omega)
    have := hmono 0 1 (by omega) (by omega)
    simp only [Nat.zero_sub, Nat.zero_add] at h ⊢
    omega
   ·rw [show wh ks key - 1 + 1 = wh ks key by omega] at h ⊢
    have := hge h
    have := hna h
    omega
theorem child_split {ls : List Ent} (he : EntOk ls.flatten) (hne : ∀ l ∈ ls, l ≠ []) (h1 : 1 ≤ ls.length) (key : Nat) :
  cix (ls.map hd) key < ls.length ∧ (∀ e ∈ (ls.take (cix (ls.map hd) key)).flatten, e.1 < key) ∧ (∀ e ∈ (ls.drop (cix (ls.map hd) key + 1)).flatten, key < e.1) := by
 obtain ⟨g1, g2, g3⟩ := cix_ok (heads_lt he hne) (by rw [List.length_map]; exact h1) key
 rw [List.length_map] at g1 g3
 obtain ⟨p1, p2⟩ := places he
 generalize cix (ls.map hd) key = c at g1 g2 g3
 have hh : ∀ i, i < ls.length → ∀ (hi : i < ls.length), (ls.map hd).getD i 0 = hd ls[i] := fun i _ hi => by
  rw [List.getD_eq_getElem?_getD, List.getElem?_map, List.getElem?_eq_getElem hi]; rfl
 refine ⟨g1, fun e hm => ?_, fun e hm => ?_⟩
 ·obtain ⟨l, hl, hel⟩ := List.mem_flatten.1 hm
  obtain ⟨i, hi⟩ := List.mem_iff_getElem?.1 hl
  have hic : i < c := by
   have := (List.getElem?_eq_some_iff.1 hi).1
   rw [List.length_take] at this; omega
  rw [List.getElem?_take, if_pos hic] at hi
  obtain ⟨hi1, rfl⟩ := List.getElem?_eq_some_iff.1 hi
  rw [hh c g1 g1] at g2
  obtain ⟨b, hb, hbh⟩ := hd_mem (hne ls[c] (List.getElem_mem _))
  have := List.pairwise_iff_getElem.1 p2 i c hi1 g1 hic e hel b hb
  omega
 ·obtain ⟨l, hl, hel⟩ := List.mem_flatten.1 hm
  obtain ⟨i, hi⟩ := List.mem_iff_getElem?.1 hl
  rw [List.getElem?_drop] at hi
  obtain ⟨hi1, rfl⟩ := List.getElem?_eq_some_iff.1 hi
  have h3 := g3 (by omega)
  rw [hh (c + 1) (by omega) (by omega)] at h3
  have h4 := hd_le (p1 _ (List.getElem_mem hi1)) hel
  by_cases h0 : i = 0
  ·subst h0
   simp only [Nat.add_zero] at h4
   omega
  ·obtain ⟨b, hb, hbh⟩ := hd_mem (hne ls[c + 1] (List.getElem_mem _))
   have := List.pairwise_iff_getElem.1 p2 (c + 1) (c + 1 + i) (by omega) hi1 (by omega) b hb e hel
   omega
end Go.Proofs.YtfoffehokhkohaaGreat
set_option maxRecDepth 20000
namespace Go.Proofs.YtfoffehokhkohaaGreat
open Go
variable [VPg]
theorem Rep.got {σ : Sp} {pg : PG} {E : List Nat} {r : Bool} {h n : Nat} {l : Ent} (hI : Inv σ pg E) (hl : live σ n = true) (H : Rep pg r h n l) (he : EntOk l) :
  ∃ x ls, NR pg r h x ls ∧ pg n = x.page ∧ l = ls.flatten ∧ least h ≤ ls.length ∧ ls.length ≤ 512 ∧ NdOk x ∧ (if x.tag = 3 then 2 else 1) ≤ x.keys.length ∧ ls.length ≤ mostE σ x.tag := by
 obtain ⟨x, ls, h1, h2, h3, h4⟩ := rep_iff.1 H
 have hp := (hI.has n hl).1
 rw [h2] at hp
 have hf := hp.fits
 have hs := hI.ok.geo.h2
 have hs1 := hI.ok.geo.h1
 have hk : x.keys.length = ls.length := by rw [h1.keys, List.length_map]
 have hd := data_len x (fun h => by rcases h1.kind with ⟨_, h, _⟩ | ⟨h1, _⟩; exact h; omega)
 have hpd : x.page.data = x.data := rfl
 have hpk : x.page.kids = x.kids := rfl
 rw [hpd, hpk] at hf
 have hR : spRoom σ 0 = σ.size - 18 := by unfold spRoom; rw [if_neg (by omega)]; omega
 have hm : ls.length ≤ mostE σ x.tag := by
  unfold mostE
  rw [hR]
  rcases h1.kind with ⟨k1, k2, k3⟩ | ⟨k1, k2, k3⟩
  ·rw [if_pos k1] at hd ⊢; omega
  ·rw [if_neg (by omega)] at hd ⊢; omega
 have h512 : ls.length ≤ 512 := by
  split at hd <;> omega
 subst h3
 exact ⟨x, ls, h1, h2, rfl, h4, h512, h1.ok he (by omega), h1.least h4, hm⟩
theorem NR.inner {pg : PG} {r : Bool} {h : Nat} {x : Nd} {ls : List Ent} (H : NR pg r (h + 1) x ls) {c : Nat} (hc : c < ls.length) : x.tag = 3 ∧ ∃ k, x.kids.getD c 0 = k ∧ k ∈ x.kids ∧ Rep pg r h k ls[c] := by
 obtain ⟨ks, rfl, h2, h3⟩ := H
 refine ⟨rfl, ks[c]'(by omega), ?_, List.getElem_mem _, h3 (ks[c]'(by omega), ls[c]) (mem_zip (i := c) (List.getElem?_eq_getElem _) (List.getElem?_eq_getElem _))⟩
 show ks.getD c 0 = _
 rw [List.getD_eq_getElem?_getD, List.getElem?_eq_getElem (by omega)]; rfl
theorem split_mem {ls : List Ent} {c : Nat} (hc : c < ls.length) (key : Nat) (h1 : ∀ e ∈ (ls.take c).flatten, e.1 < key) (h2 : ∀ e ∈ (ls.drop (c + 1)).flatten, key < e.1) (v : Nat) : (key, v) ∈ ls.flatten ↔ (key, v) ∈ ls[c] := by
 have e : ls = ls.take c ++ (ls[c] :: ls.drop (c + 1)) := by rw [List.getElem_cons_drop, List.take_append_drop]
 constructor
 ·intro hm
  rw [e, List.flatten_append, List.flatten_cons] at hm
  rcases List.mem_append.1 hm with hm | hm
  ·exact absurd (h1 _ hm) (Nat.lt_irrefl _)
  ·rcases List.mem_append.1 hm with hm | hm
   ·exact hm
   ·exact absurd (h2 _ hm) (Nat.lt_irrefl _)
 ·exact fun hm => List.mem_flatten.2 ⟨_, List.getElem_mem _, hm⟩
theorem EntOk.at {ls : List Ent} (he : EntOk ls.flatten) {l : Ent} (hl : l ∈ ls) : EntOk l := he.sub (List.sublist_flatten_of_mem hl)
def gk (q : NQ) (x : Nd) : Gs := ⟨q.k.a, 0, x.keys.length, q.k.e, q.k.ad, x.keys.length, q.k.e, x.keys⟩
def gv (q : NQ) (x : Nd) : Gs := ⟨q.v.a, 0, x.vals.length, q.v.e, q.v.ad, x.vals.length, q.v.e, x.vals⟩
def gd (q : NQ) (x : Nd) : Gs := ⟨q.d.a, 0, x.kids.length, q.d.e, q.d.ad, x.kids.length, q.d.e, x.kids⟩
def LeafR (b db : Nat) (σ : Sp) (r : Bool) (key : Nat) (l0 : Ent) (d0 : Nat) : KV := fun y hp => ∃ (q : NQ) (x : Nd) (l : Ent), y = .tup [ndV 2 3 1 q x, .int .i64 fun _ => toI d0, .int .i64 fun _ => 0] ∧ hp = appL [.res fun _ => SpaceR b db σ] (ndL q x true) ∧
 x = leafNd r l ∧ EntOk l ∧ NdOk x ∧ l ≠ [] ∧ (∀ k ∈ x.kids, k < 4294967296) ∧ ∀ v, (key, v) ∈ l0 ↔ (key, v) ∈ l
set_option maxHeartbeats 1000000 in
theorem tree_leaf (b db n0 h0 key : Nat) (r : Bool) (σ : Sp) (pg : PG) (E : List Nat) (l0 : Ent) (hI : Inv σ pg E) (hl : live σ n0 = true) (hR : Rep pg r h0 n0 l0) (he : EntOk l0) (hkey : key < 18446744073709551616) (hh : h0 ≤ 15) :
  FnSpec Tryz.prog 39 [.res fun _ => SpaceR b db σ] [.pt fun _ => ⟨b, 0, none⟩, .int .u32 fun _ => toI n0, .int .u64 fun _ => toI key] (LeafR b db σ r key l0 (h0 + 1)) := by
 obtain ⟨d0, hd0⟩ : ∃ d0, d0 = h0 + 1 := ⟨_, rfl⟩
 rw [← hd0]
 refine spec_cl mixed F39 rfl rfl rfl (fun Γ hΓ hb => ?_)
 cbv
 intro bx
 cbv
 refine loopJ (α := Nat × Nat × Nat × Ent × Nd × NQ) (fun (deep, h, n, l, _) => 1 ≤ deep ∧ deep + h = d0 ∧ live σ n = true ∧ Rep pg r h n l ∧ EntOk l ∧ ∀ v, (key, v) ∈ l0 ↔ (key, v) ∈ l)
  (fun (deep, h, n, l, x, q) => ⟨38, [(0, .pt fun _ => ⟨b, 0, none⟩), (1, .int .u32 fun _ => toI n), (2, .int .u64 fun _ => toI key), (6, .bp 1 0), (7, .int .i64 fun _ => toI deep)],
   appL [.res fun _ => SpaceR b db σ, .box bx 90 [.int .u8 fun _ => toI x.tag, .sl 3 (fun _ => q.k.a) (fun _ => 0) (fun _ => x.keys.length) (fun _ => q.k.e), .sl 4 (fun _ => q.v.a) (fun _ => 0) (fun _ => x.vals.length) (fun _ => q.v.e), .sl 2 (fun _ => q.d.a) (fun _ => 0) (fun _ => x.kids.length) (fun _ => q.d.e)] true] (ndL q x true), []⟩)
  (fun (_, h, _) => h) (1, h0, n0, l0, ⟨0, [], [], []⟩, ⟨⟨none, none, 0⟩, ⟨none, none, 0⟩, ⟨none, none, 0⟩⟩) ⟨Nat.le_refl _, by omega, hl, hR, he, fun _ => Iff.rfl⟩ (Sub.nil [.nat .u32] (Sub.nil [.nat .u64] (Sub.nil [.nat .u64] (sub2 [0, 1, 2, 3, 4] 1 hb rfl rfl rfl rfl rfl rfl rfl rfl ?_)))) ?_
 ·cbv
  (repeat' first | with_reducible rfl | exact (show Ch.base _ = _ from rfl) | ((try simp only [toI, inI, List.length_nil] at *); omega) | exact trivial | refine ⟨?_, ?_⟩ | refine ⟨?_⟩ | intro _)
  all_goals rfl
 rintro ⟨deep, h, n, l, x0, q0⟩ hJ
 have hJ : 1 ≤ deep ∧ deep + h = d0 ∧ live σ n = true ∧ Rep pg r h n l ∧ EntOk l ∧ ∀ v, (key, v) ∈ l0 ↔ (key, v) ∈ l := hJ
 obtain ⟨j1, j2, j3, j4, j5, j6⟩ := hJ
 obtain ⟨x, ls, g1, g2, g3, g4, g5, g6, g7, g8⟩ := j4.got hI j3 j5
 have hget := tree_get b db n σ pg x g6 g7 hI.ok j3 (hI.has n j3) g2
 cbv
 refine .yes (decide_eq_true om) ?_
 cbv
 refine cP hΓ (hget) [0] ?_
 rintro x hp' ⟨q, rfl, rfl⟩
 refine ⟨rfl, ?_⟩
 cbv
 refine .no (neF rfl) ?_
 cbv
 cases h with
 | zero =>
  obtain ⟨l1, hls, hxl, hvk⟩ := g1
  have ht3 : x.tag ≠ 3 := by rw [hxl]; show leafTag r ≠ 3; unfold leafTag; split <;> decide
  have hll : l = l1 := by rw [g3, hls, flatten_single]
  refine cP hΓ (inner_no x.tag ht3 (gk q x) (gv q x) (gd q x)) [6, 7, 5] ?_
  rintro x hp' ⟨rfl, rfl⟩
  refine ⟨rfl, ?_⟩
  cbv
  refine Cl.by (v' := .tup [ndV 2 3 1 q x, .int .i64 fun _ => toI d0, .int .i64 fun _ => 0]) (hp' := appL [.res fun _ => SpaceR b db σ] (ndL q x true)) [.one 0, .one 5, .one 6, .one 7] 1 hb rfl rfl (nodup_of rfl) rfl ?_ rfl ?_ ⟨q, x, l1, rfl, rfl, hxl, hll ▸ j5, g6, hll ▸ j4.ne, fun k hk => by
   have := (asked_lt (live_asked (hI.live_kid j3 (k := k) (by rw [g2]; exact hk)))).2.1
   have := hI.ok.b4
   omega, hll ▸ j6⟩
  ·cbv
   exact rf
  ·cbv
   exact rf
 | succ h =>
  subst g3
  have hkl : x.keys.length = ls.length := by rw [g1.keys, List.length_map]
  have hkk : x.kids.length = ls.length := by rw [g1.kids, if_neg (by omega)]
  have h1l : 1 ≤ ls.length := by unfold least at g4; split at g4 <;> omega
  obtain ⟨c1, c2, c3⟩ := child_split j5 g1.ne h1l key
  have hch := child_ok x.tag key x.keys.length q.k.e q.k.e q.k.a q.k.ad hkey (gv q x) (gd q x) x.keys rfl (by omega) g6.srt g6.lt
  rw [← g1.keys] at c1 c2 c3
  revert hch c1 c2 c3
  generalize cix x.keys key = c
  intro c1 c2 c3 hch
  obtain ⟨hx3, kn, hkn, hkm, hkr⟩ := g1.inner c1
  have hks : live σ kn = true := hI.live_kid j3 (by rw [g2]; exact hkm)
  have hin := inner_yes (gk q x) (gv q x) (gd q x)
  have hlc : EntOk ls[c] := j5.at (List.getElem_mem _)
  rw [hx3] at hch ⊢
  refine cP hΓ (hin) [6, 7, 5] ?_
  rintro x hp' ⟨rfl, rfl⟩
  refine ⟨rfl, ?_⟩
  cbv
  refine cP hΓ (hch) [6, 7, 5] ?_
  rintro x hp' ⟨rfl, rfl⟩
  refine ⟨rfl, ?_⟩
  cbv
  repeat (refine VC.mk (by first | rfl | exact rf) ?_; cbv)
  rw [show x.kids.getD (0 + (toI c).toNat) 0 = kn by rw [toI_toNat, Nat.zero_add]; exact hkn]
  have hmm : ∀ v, (key, v) ∈ l0 ↔ (key, v) ∈ ls[c] := fun v => (j6 v).trans (split_mem c1 key c2 c3 v)
  revert hmm hkr hlc
  generalize ls[c] = lc
  intro hkr hlc hmm
  refine .mk rf ?_
  cbv
  refine ⟨(deep + 1, h, kn, lc, x, q), ⟨by omega, by omega, hks, hkr, hlc, hmm⟩, show h < h + 1 by omega, sub2 [0, 1, 5, 6, 7] 1 hb rfl rfl rfl rfl rfl rfl rfl rfl ?_⟩
  cbv
  exact rf
theorem mem_isAt {ks : List Nat} (hs : ks.Pairwise (· < ·)) {key : Nat} (hm : key ∈ ks) : isAt ks key = true := by
 obtain ⟨p, hp, rfl⟩ := List.getElem_of_mem hm
 have hg : ks.getD p 0 = ks[p] := by rw [List.getD_eq_getElem?_getD, List.getElem?_eq_getElem hp]; rfl
 have h1 : wh ks ks[p] ≤ p := Nat.le_of_not_lt fun h => by have := wh_lt h; omega
 have h2 := wh_ge (l := ks) (k := ks[p]) (by omega)
 have h3 : wh ks ks[p] = p := by
  refine Nat.le_antisymm h1 (Nat.le_of_not_lt fun h => ?_)
  have := getD_lt hs h hp
  omega
 unfold isAt
 rw [h3, hg]
 simp [hp]
theorem isAt_get {ks : List Nat} {key : Nat} (h : isAt ks key = true) : wh ks key < ks.length ∧ ks.getD (wh ks key) 0 = key := by
 unfold isAt at h
 rw [Bool.and_eq_true] at h
 exact ⟨of_decide_eq_true h.1, eq_of_beq h.2⟩
def LookR (b db : Nat) (σ : Sp) (key : Nat) (l : Ent) : KV := fun y hp => hp = [.res fun _ => SpaceR b db σ] ∧
 ((∃ v, (key, v) ∈ l ∧ y = .tup [.int .u64 fun _ => toI v, .int .i64 fun _ => 0]) ∨ (∀ v, (key, v) ∉ l) ∧ y = .tup [.int .u64 fun _ => 0, .int .i64 fun _ => 5])
theorem look_none (b db key : Nat) (σ : Sp) : FnSpec Tryz.prog 13 [.res fun _ => SpaceR b db σ] [.pt fun _ => ⟨b, 0, none⟩, .int .u32 fun _ => toI 0, .int .u64 fun _ => toI key] (LookR b db σ key []) := by
 refine spec_cl mixed F13 rfl rfl rfl (fun Γ hΓ hb => ?_)
 cbv
 refine .yes (eqT rfl) ?_
 cbv
 exact Cl.same rfl ⟨rfl, .inr ⟨fun v h => (by cases h), rfl⟩⟩
set_option maxHeartbeats 1000000 in
theorem tree_Lookup (b db n0 h0 key : Nat) (r : Bool) (σ : Sp) (pg : PG) (E : List Nat) (l0 : Ent) (hI : Inv σ pg E) (hl : live σ n0 = true) (hR : Rep pg r h0 n0 l0) (he : EntOk l0) (hkey : key < 18446744073709551616) (hh : h0 ≤ 15) :
  FnSpec Tryz.prog 13 [.res fun _ => SpaceR b db σ] [.pt fun _ => ⟨b, 0, none⟩, .int .u32 fun _ => toI n0, .int .u64 fun _ => toI key] (LookR b db σ key l0) := by
 have hlf := tree_leaf b db n0 h0 key r σ pg E l0 hI hl hR he hkey hh
 have hn0 : n0 ≠ 0 := by have := (asked_lt (live_asked hl)).1; omega
 refine spec_cl mixed F13 rfl rfl rfl (fun Γ hΓ hb => ?_)
 cbv
 refine .no (eqF om) ?_
 cbv
 refine cP hΓ (hlf) [0] ?_
 rintro x hp' ⟨q, x, l, rfl, rfl, hx, hlo, hxo, hne, hkb, hmem⟩
 refine ⟨rfl, ?_⟩
 cbv
 intro bx
 cbv
 refine .no (neF rfl) ?_
 cbv
 have hbs := binSearch x.keys.length x.keys.length q.k.e q.k.e key q.k.a q.k.ad x.keys rfl (by have := hxo.len; omega) hxo.srt hkey hxo.lt
 have hw := wh_le x.keys key
 have hyes := isAt_get (ks := x.keys) (key := key)
 have hno := mem_isAt (key := key) hxo.srt
 revert hbs hw hyes hno
 generalize wh x.keys key = i
 generalize isAt x.keys key = bb
 intro hbs hw hyes hno
 refine cP hΓ (hbs) [2] ?_
 rintro x hp' ⟨rfl, rfl⟩
 refine ⟨rfl, ?_⟩
 cbv
 have hkeys : x.keys = l.map (·.1) := by rw [hx]; rfl
 cases bb with
 | false =>
  refine .yes rfl ?_
  cbv
  refine Cl.tk 1 hb rfl rfl rfl ⟨rfl, .inr ⟨fun v hv => ?_, rfl⟩⟩
  have h1 : key ∈ x.keys := by rw [hkeys]; exact List.mem_map.2 ⟨_, (hmem v).1 hv, rfl⟩
  cases hno h1
 | true =>
  obtain ⟨g1, g2⟩ := hyes rfl
  have hpt : (key, (l.map (·.2)).getD i 0) ∈ l := by
   rw [hkeys] at g1 g2
   rw [List.length_map] at g1
   rw [List.getD_eq_getElem?_getD, List.getElem?_map, List.getElem?_eq_getElem g1] at g2 ⊢
   simp only [Option.map_some, Option.getD_some] at g2 ⊢
   rw [← g2]
   exact List.getElem_mem _
  refine .no rfl ?_
  cbv
  cases r with
  | false =>
   have ht : x.tag = 4 := by rw [hx]; rfl
   have hvl : x.vals = l.map (·.2) := by rw [hx]; rfl
   have hvn : x.vals.length = x.keys.length := by rw [hvl, hkeys, List.length_map, List.length_map]
   have hval := value_leaf i (gk q x) (gv q x) (gd q x) (by show i < x.vals.length; omega) (by show 0 + x.vals.length ≤ x.vals.length; omega) (by show x.vals.length ≤ _; have := hxo.len; omega)
   have hy : (gv q x).l.getD ((gv q x).off + i) 0 = (l.map (·.2)).getD i 0 := by rw [← hvl]; show x.vals.getD (0 + i) 0 = _; rw [Nat.zero_add]
   rw [hy] at hval
   rw [ht]
   revert hval hpt
   generalize (l.map (·.2)).getD i 0 = w
   intro hpt hval
   refine cP hΓ (hval) [2, 3, 1] ?_
   rintro x hp' ⟨rfl, rfl⟩
   refine ⟨rfl, ?_⟩
   cbv
   exact Cl.tk 1 hb rfl rfl rfl ⟨rfl, .inl ⟨w, (hmem w).2 hpt, rfl⟩⟩
  | true =>
   have ht : x.tag = 5 := by rw [hx]; rfl
   have hvl : x.kids = l.map (·.2) := by rw [hx]; rfl
   have hvn : x.kids.length = x.keys.length := by rw [hvl, hkeys, List.length_map, List.length_map]
   have hy : (gd q x).l.getD ((gd q x).off + i) 0 = (l.map (·.2)).getD i 0 := by rw [← hvl]; show x.kids.getD (0 + i) 0 = _; rw [Nat.zero_add]
   have hval := value_kids x.tag i (by omega) (gk q x) (gv q x) (gd q x) (by show i < x.kids.length; omega) (by show 0 + x.kids.length ≤ x.kids.length; omega) (by show x.kids.length ≤ _; have := hxo.len; omega) (by
    rw [hy, ← hvl, List.getD_eq_getElem?_getD, List.getElem?_eq_getElem (by omega)]
    exact hkb _ (List.getElem_mem _))
   rw [hy] at hval
   revert hval hpt
   generalize (l.map (·.2)).getD i 0 = w
   intro hpt hval
   refine cP hΓ (hval) [2, 3, 1] ?_
   rintro x hp' ⟨rfl, rfl⟩
   refine ⟨rfl, ?_⟩
   cbv
   exact Cl.tk 1 hb rfl rfl rfl ⟨rfl, .inl ⟨w, (hmem w).2 hpt, rfl⟩⟩
end Go.Proofs.YtfoffehokhkohaaGreat
set_option maxRecDepth 20000
namespace Go.Proofs.YtfoffehokhkohaaGreat
open Go
variable [VPg]
def lst (l : Ent) : Nat := (l.getLastD (0, 0)).1
theorem lst_getD (l : Ent) (h : l ≠ []) : (l.map (·.1)).getD (l.length - 1) 0 = lst l := by
 unfold lst
 rw [List.getLastD_eq_getLast?, List.getLast?_eq_getElem?, List.getD_eq_getElem?_getD, List.getElem?_map]
 have := List.length_pos_iff.2 h
 rw [List.getElem?_eq_getElem (by omega)]
 rfl
theorem lst_mem {l : Ent} (h : l ≠ []) : ∃ e ∈ l, e.1 = lst l := by
 refine ⟨l.getLast h, List.getLast_mem h, ?_⟩
 unfold lst
 rw [List.getLastD_eq_getLast?, List.getLast?_eq_some_getLast h]; rfl
theorem lst_app {l m : Ent} (h : m ≠ []) : lst (l ++ m) = lst m := by
 unfold lst
 rw [List.getLastD_eq_getLast?, List.getLastD_eq_getLast?, List.getLast?_append, List.getLast?_eq_some_getLast h]
 rfl
def LookSh (b db : Nat) (σ : Sp) (r : Bool) (h : Nat) (l : Ent) : KV := fun y hp => hp = [.res fun _ => SpaceR b db σ] ∧
 y = .tup [.agg [.int .i64 fun _ => toI l.length, .int .u64 fun _ => toI (hd l), .int .u64 fun _ => toI (lst l), .int .u8 fun _ => toI (leafTag r), .int .i64 fun _ => toI (h + 1)], .int .i64 fun _ => 0]
set_option maxHeartbeats 2000000 in
theorem tree_look_t (b db : Nat) (r : Bool) (σ : Sp) (pg : PG) (E : List Nat) (hI : Inv σ pg E) : ∀ (h n deep : Nat) (l : Ent), deep + h ≤ 16 → live σ n = true → Rep pg r h n l → EntOk l → l.length ≤ 100000 →
  FnSpec Tryz.prog 57 [.res fun _ => SpaceR b db σ] [.pt fun _ => ⟨b, 0, none⟩, .int .u32 fun _ => toI n, .int .i64 fun _ => toI deep, .tt] (LookSh b db σ r h l) := by
 intro h
 induction h with
 | zero =>
  intro n deep l hdp hl hR he hlen
  obtain ⟨x, ls, g1, g2, g3, g4, g5, g6, g7, g8⟩ := hR.got hI hl he
  have hget := tree_get b db n σ pg x g6 g7 hI.ok hl (hI.has n hl) g2
  obtain ⟨l1, hls, hxl, hvk⟩ := g1
  have hll : l = l1 := by rw [g3, hls, flatten_single]
  subst hll
  have ht3 : x.tag ≠ 3 := by rw [hxl]; show leafTag r ≠ 3; unfold leafTag; split <;> decide
  have htag : x.tag = leafTag r := by rw [hxl]; rfl
  have hkeys : x.keys = l.map (·.1) := by rw [hxl]; rfl
  have hkl : x.keys.length = l.length := by rw [hkeys, List.length_map]
  have hne := hR.ne
  have hpos := List.length_pos_iff.2 hne
  have hlo : x.keys.getD (0 + (0 : Int).toNat) 0 = hd l := by
   rw [hkeys]
   cases l with
   | nil => exact absurd rfl hne
   | cons e l => rfl
  have hhi : x.keys.getD (0 + (toI x.keys.length - 1).toNat) 0 = lst l := by
   rw [show 0 + (toI x.keys.length - 1).toNat = l.length - 1 by exact om, hkeys]
   exact lst_getD l hne
  have hsp : hd l = hd l ∧ lst l = lst l := ⟨rfl, rfl⟩
  obtain ⟨lo, hlo2⟩ : ∃ lo, hd l = lo := ⟨_, rfl⟩
  obtain ⟨hi, hhi2⟩ : ∃ hi, lst l = hi := ⟨_, rfl⟩
  obtain ⟨N, hN⟩ : ∃ N, l.length = N := ⟨_, rfl⟩
  obtain ⟨tg, htg⟩ : ∃ tg, leafTag r = tg := ⟨_, rfl⟩
  unfold LookSh
  rw [hlo2] at hlo
  rw [hhi2] at hhi
  rw [hlo2, hhi2, hN, htg]
  rw [htg] at htag
  rw [hN] at hkl hpos
  have hin := fun q => inner_no x.tag ht3 (gk q x) (gv q x) (gd q x)
  refine spec_cl mixed F57 rfl rfl rfl (fun Γ hΓ hb => ?_)
  cbv
  intro b1
  cbv
  refine cP hΓ (hget) [0] ?_
  rintro x hp' ⟨q, rfl, rfl⟩
  refine ⟨rfl, ?_⟩
  cbv
  intro b2
  cbv
  refine .no (neF rfl) ?_
  cbv
  refine .no (decide_eq_false om) ?_
  cbv
  refine cP hΓ (hin q) [3, 4, 2] ?_
  rintro x hp' ⟨rfl, rfl⟩
  refine ⟨rfl, ?_⟩
  cbv
  repeat (refine VC.mk (by first | rfl | exact rf) ?_; cbv)
  rw [hlo, hhi]
  refine Cl.by (v' := .tup [.agg [.int .i64 fun _ => toI N, .int .u64 fun _ => toI lo, .int .u64 fun _ => toI hi, .int .u8 fun _ => toI tg, .int .i64 fun _ => toI 1], .int .i64 fun _ => 0]) (hp' := [.res fun _ => SpaceR b db σ]) [.one 0] 1 hb rfl rfl (nodup_of rfl) rfl ?_ rfl ?_ ⟨rfl, rfl⟩
  ·cbv
   exact rf
  ·cbv
   exact rf
 | succ h ih =>
  intro n deep l hdp hl hR he hlen
  obtain ⟨x, ls, g1, g2, g3, g4, g5, g6, g7, g8⟩ := hR.got hI hl he
  have hget := tree_get b db n σ pg x g6 g7 hI.ok hl (hI.has n hl) g2
  subst g3
  have hkl : x.keys.length = ls.length := by rw [g1.keys, List.length_map]
  have hkk : x.kids.length = ls.length := by rw [g1.kids, if_neg (by omega)]
  have hx3 : x.tag = 3 := by rw [g1.tag, if_neg (by omega)]
  have h2l : 2 ≤ ls.length := by unfold least at g4; rw [if_neg (by omega)] at g4; exact g4
  obtain ⟨p1, p2⟩ := places he
  have hin := fun q => inner_yes (gk q x) (gv q x) (gd q x)
  obtain ⟨m, hm⟩ : ∃ m, ls.length = m := ⟨_, rfl⟩
  rw [hm] at hkl hkk h2l
  have hkid : ∀ i (hi : i < ls.length), ∃ kn, x.kids.getD (0 + (toI i).toNat) 0 = kn ∧ FnSpec Tryz.prog 57 [.res fun _ => SpaceR b db σ] [.pt fun _ => ⟨b, 0, none⟩, .int .u32 fun _ => toI kn, .int .i64 fun _ => toI (deep + 1), .tt] (LookSh b db σ r h ls[i]) := by
   intro i hi
   obtain ⟨_, kn, hkn, hkm, hkr⟩ := g1.inner hi
   refine ⟨kn, by rw [toI_toNat, Nat.zero_add]; exact hkn, ih kn (deep + 1) ls[i] (by omega) (hI.live_kid hl (by rw [g2]; exact hkm)) hkr (he.at (List.getElem_mem _)) ?_⟩
   have := (List.sublist_flatten_of_mem (List.getElem_mem (l := ls) hi)).length_le
   omega
  have hkeyi : ∀ i (hi : i < ls.length), x.keys.getD (0 + (toI i).toNat) 0 = hd ls[i] := fun i hi => by
   rw [toI_toNat, Nat.zero_add, g1.keys, List.getD_eq_getElem?_getD, List.getElem?_map, List.getElem?_eq_getElem hi]; rfl
  have htk : ∀ i (hi : i < ls.length), (ls.take (i + 1)).flatten = (ls.take i).flatten ++ ls[i] := fun i hi => by
   rw [List.take_add_one, List.getElem?_eq_getElem hi, List.flatten_append]; simp
  have hlo : hd ls.flatten = hd ls[0] := by
   have e : ls = ls[0] :: ls.drop 1 := by rw [List.getElem_cons_drop]; rfl
   have hne := g1.ne ls[0] (List.getElem_mem _)
   conv => lhs; rw [e, List.flatten_cons]
   generalize ls[0] = l0 at hne
   cases l0 with
   | nil => exact absurd rfl hne
   | cons e t => rfl
  obtain ⟨tg, htg⟩ : ∃ tg, leafTag r = tg := ⟨_, rfl⟩
  unfold LookSh at hkid ⊢
  rw [htg] at hkid ⊢
  refine spec_cl mixed F57 rfl rfl rfl (fun Γ hΓ hb => ?_)
  cbv
  intro b1
  cbv
  refine cP hΓ (hget) [0] ?_
  rintro x hp' ⟨q, rfl, rfl⟩
  refine ⟨rfl, ?_⟩
  cbv
  intro b2
  cbv
  refine .no (neF rfl) ?_
  cbv
  refine .no (decide_eq_false om) ?_
  cbv
  rw [hx3]
  refine cP hΓ (hin q) [3, 4, 2] ?_
  rintro x hp' ⟨rfl, rfl⟩
  refine ⟨rfl, ?_⟩
  cbv
  refine loopJ (α := Nat × Nat × Nat × Nat × Nat × Nat) (fun (i, N, lo, hi, g, t) => i ≤ m ∧ (i = 0 ∧ N = 0 ∧ lo = 0 ∧ hi = 0 ∧ g = 0 ∧ t = 0 ∨ 0 < i ∧ N = (ls.take i).flatten.length ∧ lo = hd ls.flatten ∧ hi = lst (ls.take i).flatten ∧ g = tg ∧ t = h + 2))
   (fun (i, N, lo, hi, g, t) => ⟨135, [(0, .pt fun _ => ⟨b, 0, none⟩), (2, .int .i64 fun _ => toI deep), (3, .tt), (8, .bp 1 0), (10, .bp 5 0), (54, .sl 2 (fun _ => q.d.a) (fun _ => 0) (fun _ => x.kids.length) (fun _ => q.d.e)), (55, .int .i64 fun _ => toI m), (56, .int .i64 fun _ => toI i)],
    [.res fun _ => SpaceR b db σ, .box b1 115 [.int .i64 fun _ => toI N, .int .u64 fun _ => toI lo, .int .u64 fun _ => toI hi, .int .u8 fun _ => toI g, .int .i64 fun _ => toI t] true,
     .arr q.d.ad (fun _ => x.kids.length) (fun _ => q.d.e) [.nat .u32 fun _ => x.kids] true, .arr q.k.ad (fun _ => x.keys.length) (fun _ => q.k.e) [.nat .u64 fun _ => x.keys] true, .arr q.v.ad (fun _ => x.vals.length) (fun _ => q.v.e) [.nat .u64 fun _ => x.vals] true,
     .box b2 90 [.int .u8 fun _ => toI 3, .sl 3 (fun _ => q.k.a) (fun _ => 0) (fun _ => x.keys.length) (fun _ => q.k.e), .sl 4 (fun _ => q.v.a) (fun _ => 0) (fun _ => x.vals.length) (fun _ => q.v.e), .sl 2 (fun _ => q.d.a) (fun _ => 0) (fun _ => x.kids.length) (fun _ => q.d.e)] true], []⟩)
   (fun (i, _) => m - i) (0, 0, 0, 0, 0, 0) ⟨Nat.zero_le _, .inl ⟨rfl, rfl, rfl, rfl, rfl, rfl⟩⟩ (sub2 [0, 1, 2, 3, 4, 5] 1 hb rfl rfl rfl rfl rfl rfl rfl rfl ?_) ?_
  ·cbv
   exact rf
  rintro ⟨i, N, lo, hi, g, t⟩ hJ
  have hJ : i ≤ m ∧ (i = 0 ∧ N = 0 ∧ lo = 0 ∧ hi = 0 ∧ g = 0 ∧ t = 0 ∨ 0 < i ∧ N = (ls.take i).flatten.length ∧ lo = hd ls.flatten ∧ hi = lst (ls.take i).flatten ∧ g = tg ∧ t = h + 2) := hJ
  obtain ⟨him, hcase⟩ := hJ
  cbv
  refine ⟨fun hc => ?_, fun hc => ?_⟩
  ·replace hc := toI_lt hc
   obtain ⟨kn, hkn, hks⟩ := hkid i (by omega)
   have hky := hkeyi i (by omega)
   obtain ⟨n1, hn1⟩ : ∃ n1, ls[i].length = n1 := ⟨_, rfl⟩
   obtain ⟨lo1, hlo1⟩ : ∃ lo1, hd ls[i] = lo1 := ⟨_, rfl⟩
   obtain ⟨hi1, hhi1⟩ : ∃ hi1, lst ls[i] = hi1 := ⟨_, rfl⟩
   rw [hn1, hlo1, hhi1] at hks
   rw [hlo1] at hky
   have hnl := (List.sublist_flatten_of_mem (List.getElem_mem (l := ls) (show i < ls.length by omega))).length_le
   cbv
   repeat ((first | refine VC.mk rf ?_ | refine ADD.mk rf ?_); cbv)
   rw [hkn]
   refine cP hΓ (hks) [0] ?_
   rintro x hp' ⟨rfl, rfl⟩
   refine ⟨rfl, ?_⟩
   cbv
   intro b3
   cbv
   refine .no (neF rfl) ?_
   cbv
   repeat (refine VC.mk (by first | rfl | exact rf) ?_; cbv)
   rw [hky]
   refine .no (neF rfl) ?_
   cbv
   have hfl := htk i (by omega)
   have hlen2 : ((ls.take i).flatten ++ ls[i]).length ≤ 100000 := by
    rw [← hfl]
    have : ls.flatten.length = (ls.take (i + 1)).flatten.length + (ls.drop (i + 1)).flatten.length := by rw [← List.length_append, ← List.flatten_append, List.take_append_drop]
    omega
   rw [List.length_append, hn1] at hlen2
   have hlst : lst (ls.take (i + 1)).flatten = hi1 := by rw [hfl, lst_app (g1.ne _ (List.getElem_mem _)), hhi1]
   have hlen3 : (ls.take (i + 1)).flatten.length = (ls.take i).flatten.length + n1 := by rw [hfl, List.length_append, hn1]
   rcases hcase with ⟨rfl, rfl, rfl, rfl, rfl, rfl⟩ | ⟨h0, k1, k2, k3, k4, k5⟩
   ·refine .no (decide_eq_false om) ?_
    cbv
    refine .yes (eqT rfl) ?_
    cbv
    repeat ((first | refine VC.mk rf ?_ | refine ADD.mk rf ?_); cbv)
    obtain ⟨fl, hfl0⟩ : ∃ fl, hd ls.flatten = fl := ⟨_, rfl⟩
    have hl01 : fl = lo1 := by rw [← hfl0, hlo, hlo1]
    refine ⟨(1, n1, lo1, hi1, tg, h + 2), ⟨by omega, .inr ⟨by omega, by rw [hlen3]; simp, by rw [hfl0, hl01], hlst.symm, rfl, rfl⟩⟩, show m - 1 < m - 0 by omega, sub2 [0, 1, 2, 3, 4, 5] 1 hb rfl rfl rfl rfl rfl rfl rfl rfl ?_⟩
    cbv
    exact rf
   ·have hhl : hi < lo1 := by
     have hne : (ls.take i).flatten ≠ [] := by
      intro e0
      have : ls[0] ∈ ls.take i := List.mem_of_getElem? (i := 0) (by rw [List.getElem?_take, if_pos h0, List.getElem?_eq_getElem (by omega)])
      exact g1.ne ls[0] (List.getElem_mem _) (List.flatten_eq_nil_iff.1 e0 _ this)
     obtain ⟨e, hel, heq⟩ := lst_mem hne
     obtain ⟨e', hel', heq'⟩ := hd_mem (g1.ne ls[i] (List.getElem_mem _))
     obtain ⟨l', hl', hll'⟩ := List.mem_flatten.1 hel
     obtain ⟨p, hp⟩ := List.mem_iff_getElem?.1 hl'
     have hpi : p < i := by
      have := (List.getElem?_eq_some_iff.1 hp).1
      rw [List.length_take] at this; omega
     rw [List.getElem?_take, if_pos hpi] at hp
     obtain ⟨hp1, rfl⟩ := List.getElem?_eq_some_iff.1 hp
     have := List.pairwise_iff_getElem.1 p2 p i hp1 (by omega) hpi e hll' e' hel'
     omega
    refine .yes (decide_eq_true om) ?_
    cbv
    repeat (refine VC.mk (by first | rfl | exact rf) ?_; cbv)
    refine .no (decide_eq_false om) ?_
    cbv
    repeat (refine VC.mk (by first | rfl | exact rf) ?_; cbv)
    refine .no (neF om) ?_
    cbv
    repeat ((first | refine VC.mk (by first | rfl | exact rf) ?_ | refine ADD.mk rf ?_); cbv)
    refine .no (neF om) ?_
    cbv
    refine .no (eqF om) ?_
    cbv
    repeat ((first | refine VC.mk rf ?_ | refine ADD.mk rf ?_); cbv)
    obtain ⟨N2, hN2⟩ : ∃ N2, N2 = N + n1 := ⟨_, rfl⟩
    refine ⟨(i + 1, N2, lo, hi1, tg, h + 2), ⟨by omega, .inr ⟨by omega, by rw [hlen3, ← k1, hN2], k2, hlst.symm, rfl, rfl⟩⟩, show m - (i + 1) < m - i by omega, sub2 [0, 1, 2, 3, 4, 5] 1 hb rfl rfl rfl rfl rfl rfl rfl rfl ?_⟩
    cbv
    exact rf
  ·replace hc := toI_nlt hc
   have him2 : i = m := by omega
   rcases hcase with ⟨h0, _⟩ | ⟨h0, k1, k2, k3, k4, k5⟩
   ·omega
   rw [him2, ← hm, List.take_length] at k1 k3
   rw [← k1, ← k2, ← k3]
   cbv
   refine Cl.by (v' := .tup [.agg [.int .i64 fun _ => toI N, .int .u64 fun _ => toI lo, .int .u64 fun _ => toI hi, .int .u8 fun _ => toI tg, .int .i64 fun _ => toI (h + 2)], .int .i64 fun _ => 0]) (hp' := [.res fun _ => SpaceR b db σ]) [.one 0] 1 hb rfl rfl (nodup_of rfl) rfl ?_ rfl ?_ ⟨rfl, rfl⟩
   ·cbv
    exact rf
   ·cbv
    exact rf
end Go.Proofs.YtfoffehokhkohaaGreat
set_option maxRecDepth 20000
namespace Go.Proofs.YtfoffehokhkohaaGreat
open Go
variable [VPg]
set_option maxHeartbeats 2000000 in
theorem tree_look_f (b db : Nat) (r : Bool) (σ : Sp) (pg : PG) (E : List Nat) (hI : Inv σ pg E) : ∀ (h n deep : Nat) (l : Ent), deep + h ≤ 16 → live σ n = true → Rep pg r h n l → EntOk l → l.length ≤ 100000 →
  FnSpec Tryz.prog 57 [.res fun _ => SpaceR b db σ] [.pt fun _ => ⟨b, 0, none⟩, .int .u32 fun _ => toI n, .int .i64 fun _ => toI deep, .ff] (LookSh b db σ r h l) := by
 intro h
 induction h with
 | zero =>
  intro n deep l hdp hl hR he hlen
  obtain ⟨x, ls, g1, g2, g3, g4, g5, g6, g7, g8⟩ := hR.got hI hl he
  have hget := tree_get b db n σ pg x g6 g7 hI.ok hl (hI.has n hl) g2
  obtain ⟨l1, hls, hxl, hvk⟩ := g1
  have hll : l = l1 := by rw [g3, hls, flatten_single]
  subst hll
  have ht3 : x.tag ≠ 3 := by rw [hxl]; show leafTag r ≠ 3; unfold leafTag; split <;> decide
  have htag : x.tag = leafTag r := by rw [hxl]; rfl
  have hkeys : x.keys = l.map (·.1) := by rw [hxl]; rfl
  have hkl : x.keys.length = l.length := by rw [hkeys, List.length_map]
  have hne := hR.ne
  have hpos := List.length_pos_iff.2 hne
  have hlo : x.keys.getD (0 + (0 : Int).toNat) 0 = hd l := by
   rw [hkeys]
   cases l with
   | nil => exact absurd rfl hne
   | cons e l => rfl
  have hhi : x.keys.getD (0 + (toI x.keys.length - 1).toNat) 0 = lst l := by
   rw [show 0 + (toI x.keys.length - 1).toNat = l.length - 1 by exact om, hkeys]
   exact lst_getD l hne
  have hsp : hd l = hd l ∧ lst l = lst l := ⟨rfl, rfl⟩
  obtain ⟨lo, hlo2⟩ : ∃ lo, hd l = lo := ⟨_, rfl⟩
  obtain ⟨hi, hhi2⟩ : ∃ hi, lst l = hi := ⟨_, rfl⟩
  obtain ⟨N, hN⟩ : ∃ N, l.length = N := ⟨_, rfl⟩
  obtain ⟨tg, htg⟩ : ∃ tg, leafTag r = tg := ⟨_, rfl⟩
  unfold LookSh
  rw [hlo2] at hlo
  rw [hhi2] at hhi
  rw [hlo2, hhi2, hN, htg]
  rw [htg] at htag
  rw [hN] at hkl hpos
  have hin := fun q => inner_no x.tag ht3 (gk q x) (gv q x) (gd q x)
  refine spec_cl mixed F57 rfl rfl rfl (fun Γ hΓ hb => ?_)
  cbv
  intro b1
  cbv
  refine cP hΓ (hget) [0] ?_
  rintro x hp' ⟨q, rfl, rfl⟩
  refine ⟨rfl, ?_⟩
  cbv
  intro b2
  cbv
  refine .no (neF rfl) ?_
  cbv
  refine .no (decide_eq_false om) ?_
  cbv
  refine cP hΓ (hin q) [3, 4, 2] ?_
  rintro x hp' ⟨rfl, rfl⟩
  refine ⟨rfl, ?_⟩
  cbv
  repeat (refine VC.mk (by first | rfl | exact rf) ?_; cbv)
  rw [hlo, hhi]
  refine Cl.by (v' := .tup [.agg [.int .i64 fun _ => toI N, .int .u64 fun _ => toI lo, .int .u64 fun _ => toI hi, .int .u8 fun _ => toI tg, .int .i64 fun _ => toI 1], .int .i64 fun _ => 0]) (hp' := [.res fun _ => SpaceR b db σ]) [.one 0] 1 hb rfl rfl (nodup_of rfl) rfl ?_ rfl ?_ ⟨rfl, rfl⟩
  ·cbv
   exact rf
  ·cbv
   exact rf
 | succ h ih =>
  intro n deep l hdp hl hR he hlen
  obtain ⟨x, ls, g1, g2, g3, g4, g5, g6, g7, g8⟩ := hR.got hI hl he
  have hget := tree_get b db n σ pg x g6 g7 hI.ok hl (hI.has n hl) g2
  subst g3
  have hkl : x.keys.length = ls.length := by rw [g1.keys, List.length_map]
  have hkk : x.kids.length = ls.length := by rw [g1.kids, if_neg (by omega)]
  have hx3 : x.tag = 3 := by rw [g1.tag, if_neg (by omega)]
  have h2l : 2 ≤ ls.length := by unfold least at g4; rw [if_neg (by omega)] at g4; exact g4
  obtain ⟨p1, p2⟩ := places he
  have hin := fun q => inner_yes (gk q x) (gv q x) (gd q x)
  obtain ⟨m, hm⟩ : ∃ m, ls.length = m := ⟨_, rfl⟩
  rw [hm] at hkl hkk h2l
  have hkid : ∀ i (hi : i < ls.length), ∃ kn, x.kids.getD (0 + (toI i).toNat) 0 = kn ∧ FnSpec Tryz.prog 57 [.res fun _ => SpaceR b db σ] [.pt fun _ => ⟨b, 0, none⟩, .int .u32 fun _ => toI kn, .int .i64 fun _ => toI (deep + 1), .ff] (LookSh b db σ r h ls[i]) := by
   intro i hi
   obtain ⟨_, kn, hkn, hkm, hkr⟩ := g1.inner hi
   refine ⟨kn, by rw [toI_toNat, Nat.zero_add]; exact hkn, ih kn (deep + 1) ls[i] (by omega) (hI.live_kid hl (by rw [g2]; exact hkm)) hkr (he.at (List.getElem_mem _)) ?_⟩
   have := (List.sublist_flatten_of_mem (List.getElem_mem (l := ls) hi)).length_le
   omega
  have hkeyi : ∀ i (hi : i < ls.length), x.keys.getD (0 + (toI i).toNat) 0 = hd ls[i] := fun i hi => by
   rw [toI_toNat, Nat.zero_add, g1.keys, List.getD_eq_getElem?_getD, List.getElem?_map, List.getElem?_eq_getElem hi]; rfl
  have htk : ∀ i (hi : i < ls.length), (ls.take (i + 1)).flatten = (ls.take i).flatten ++ ls[i] := fun i hi => by
   rw [List.take_add_one, List.getElem?_eq_getElem hi, List.flatten_append]; simp
  have hlo : hd ls.flatten = hd ls[0] := by
   have e : ls = ls[0] :: ls.drop 1 := by rw [List.getElem_cons_drop]; rfl
   have hne := g1.ne ls[0] (List.getElem_mem _)
   conv => lhs; rw [e, List.flatten_cons]
   generalize ls[0] = l0 at hne
   cases l0 with
   | nil => exact absurd rfl hne
   | cons e t => rfl
  obtain ⟨tg, htg⟩ : ∃ tg, leafTag r = tg := ⟨_, rfl⟩
  unfold LookSh at hkid ⊢
  rw [htg] at hkid ⊢
  refine spec_cl mixed F57 rfl rfl rfl (fun Γ hΓ hb => ?_)
  cbv
  intro b1
  cbv
  refine cP hΓ (hget) [0] ?_
  rintro x hp' ⟨q, rfl, rfl⟩
  refine ⟨rfl, ?_⟩
  cbv
  intro b2
  cbv
  refine .no (neF rfl) ?_
  cbv
  refine .no (decide_eq_false om) ?_
  cbv
  rw [hx3]
  refine cP hΓ (hin q) [3, 4, 2] ?_
  rintro x hp' ⟨rfl, rfl⟩
  refine ⟨rfl, ?_⟩
  cbv
  refine loopJ (α := Nat × Nat × Nat × Nat × Nat × Nat) (fun (i, N, lo, hi, g, t) => i ≤ m ∧ (i = 0 ∧ N = 0 ∧ lo = 0 ∧ hi = 0 ∧ g = 0 ∧ t = 0 ∨ 0 < i ∧ N = (ls.take i).flatten.length ∧ lo = hd ls.flatten ∧ hi = lst (ls.take i).flatten ∧ g = tg ∧ t = h + 2))
   (fun (i, N, lo, hi, g, t) => ⟨135, [(0, .pt fun _ => ⟨b, 0, none⟩), (2, .int .i64 fun _ => toI deep), (3, .ff), (8, .bp 1 0), (10, .bp 5 0), (54, .sl 2 (fun _ => q.d.a) (fun _ => 0) (fun _ => x.kids.length) (fun _ => q.d.e)), (55, .int .i64 fun _ => toI m), (56, .int .i64 fun _ => toI i)],
    [.res fun _ => SpaceR b db σ, .box b1 115 [.int .i64 fun _ => toI N, .int .u64 fun _ => toI lo, .int .u64 fun _ => toI hi, .int .u8 fun _ => toI g, .int .i64 fun _ => toI t] true,
     .arr q.d.ad (fun _ => x.kids.length) (fun _ => q.d.e) [.nat .u32 fun _ => x.kids] true, .arr q.k.ad (fun _ => x.keys.length) (fun _ => q.k.e) [.nat .u64 fun _ => x.keys] true, .arr q.v.ad (fun _ => x.vals.length) (fun _ => q.v.e) [.nat .u64 fun _ => x.vals] true,
     .box b2 90 [.int .u8 fun _ => toI 3, .sl 3 (fun _ => q.k.a) (fun _ => 0) (fun _ => x.keys.length) (fun _ => q.k.e), .sl 4 (fun _ => q.v.a) (fun _ => 0) (fun _ => x.vals.length) (fun _ => q.v.e), .sl 2 (fun _ => q.d.a) (fun _ => 0) (fun _ => x.kids.length) (fun _ => q.d.e)] true], []⟩)
   (fun (i, _) => m - i) (0, 0, 0, 0, 0, 0) ⟨Nat.zero_le _, .inl ⟨rfl, rfl, rfl, rfl, rfl, rfl⟩⟩ (sub2 [0, 1, 2, 3, 4, 5] 1 hb rfl rfl rfl rfl rfl rfl rfl rfl ?_) ?_
  ·cbv
   exact rf
  rintro ⟨i, N, lo, hi, g, t⟩ hJ
  have hJ : i ≤ m ∧ (i = 0 ∧ N = 0 ∧ lo = 0 ∧ hi = 0 ∧ g = 0 ∧ t = 0 ∨ 0 < i ∧ N = (ls.take i).flatten.length ∧ lo = hd ls.flatten ∧ hi = lst (ls.take i).flatten ∧ g = tg ∧ t = h + 2) := hJ
  obtain ⟨him, hcase⟩ := hJ
  cbv
  refine ⟨fun hc => ?_, fun hc => ?_⟩
  ·replace hc := toI_lt hc
   obtain ⟨kn, hkn, hks⟩ := hkid i (by omega)
   have hky := hkeyi i (by omega)
   obtain ⟨n1, hn1⟩ : ∃ n1, ls[i].length = n1 := ⟨_, rfl⟩
   obtain ⟨lo1, hlo1⟩ : ∃ lo1, hd ls[i] = lo1 := ⟨_, rfl⟩
   obtain ⟨hi1, hhi1⟩ : ∃ hi1, lst ls[i] = hi1 := ⟨_, rfl⟩
   rw [hn1, hlo1, hhi1] at hks
   rw [hlo1] at hky
   have hnl := (List.sublist_flatten_of_mem (List.getElem_mem (l := ls) (show i < ls.length by omega))).length_le
   cbv
   repeat ((first | refine VC.mk rf ?_ | refine ADD.mk rf ?_); cbv)
   rw [hkn]
   refine cP hΓ (hks) [0] ?_
   rintro x hp' ⟨rfl, rfl⟩
   refine ⟨rfl, ?_⟩
   cbv
   intro b3
   cbv
   refine .no (neF rfl) ?_
   cbv
   repeat (refine VC.mk (by first | rfl | exact rf) ?_; cbv)
   rw [hky]
   refine .no (neF rfl) ?_
   cbv
   have hfl := htk i (by omega)
   have hlen2 : ((ls.take i).flatten ++ ls[i]).length ≤ 100000 := by
    rw [← hfl]
    have : ls.flatten.length = (ls.take (i + 1)).flatten.length + (ls.drop (i + 1)).flatten.length := by rw [← List.length_append, ← List.flatten_append, List.take_append_drop]
    omega
   rw [List.length_append, hn1] at hlen2
   have hlst : lst (ls.take (i + 1)).flatten = hi1 := by rw [hfl, lst_app (g1.ne _ (List.getElem_mem _)), hhi1]
   have hlen3 : (ls.take (i + 1)).flatten.length = (ls.take i).flatten.length + n1 := by rw [hfl, List.length_append, hn1]
   rcases hcase with ⟨rfl, rfl, rfl, rfl, rfl, rfl⟩ | ⟨h0, k1, k2, k3, k4, k5⟩
   ·refine .no (decide_eq_false om) ?_
    cbv
    refine .yes (eqT rfl) ?_
    cbv
    repeat ((first | refine VC.mk rf ?_ | refine ADD.mk rf ?_); cbv)
    obtain ⟨fl, hfl0⟩ : ∃ fl, hd ls.flatten = fl := ⟨_, rfl⟩
    have hl01 : fl = lo1 := by rw [← hfl0, hlo, hlo1]
    refine ⟨(1, n1, lo1, hi1, tg, h + 2), ⟨by omega, .inr ⟨by omega, by rw [hlen3]; simp, by rw [hfl0, hl01], hlst.symm, rfl, rfl⟩⟩, show m - 1 < m - 0 by omega, sub2 [0, 1, 2, 3, 4, 5] 1 hb rfl rfl rfl rfl rfl rfl rfl rfl ?_⟩
    cbv
    exact rf
   ·have hhl : hi < lo1 := by
     have hne : (ls.take i).flatten ≠ [] := by
      intro e0
      have : ls[0] ∈ ls.take i := List.mem_of_getElem? (i := 0) (by rw [List.getElem?_take, if_pos h0, List.getElem?_eq_getElem (by omega)])
      exact g1.ne ls[0] (List.getElem_mem _) (List.flatten_eq_nil_iff.1 e0 _ this)
     obtain ⟨e, hel, heq⟩ := lst_mem hne
     obtain ⟨e', hel', heq'⟩ := hd_mem (g1.ne ls[i] (List.getElem_mem _))
     obtain ⟨l', hl', hll'⟩ := List.mem_flatten.1 hel
     obtain ⟨p, hp⟩ := List.mem_iff_getElem?.1 hl'
     have hpi : p < i := by
      have := (List.getElem?_eq_some_iff.1 hp).1
      rw [List.length_take] at this; omega
     rw [List.getElem?_take, if_pos hpi] at hp
     obtain ⟨hp1, rfl⟩ := List.getElem?_eq_some_iff.1 hp
     have := List.pairwise_iff_getElem.1 p2 p i hp1 (by omega) hpi e hll' e' hel'
     omega
    refine .yes (decide_eq_true om) ?_
    cbv
    repeat (refine VC.mk (by first | rfl | exact rf) ?_; cbv)
    refine .no (decide_eq_false om) ?_
    cbv
    repeat (refine VC.mk (by first | rfl | exact rf) ?_; cbv)
    refine .no (neF om) ?_
    cbv
    repeat ((first | refine VC.mk (by first | rfl | exact rf) ?_ | refine ADD.mk rf ?_); cbv)
    refine .no (eqF om) ?_
    cbv
    repeat ((first | refine VC.mk rf ?_ | refine ADD.mk rf ?_); cbv)
    obtain ⟨N2, hN2⟩ : ∃ N2, N2 = N + n1 := ⟨_, rfl⟩
    refine ⟨(i + 1, N2, lo, hi1, tg, h + 2), ⟨by omega, .inr ⟨by omega, by rw [hlen3, ← k1, hN2], k2, hlst.symm, rfl, rfl⟩⟩, show m - (i + 1) < m - i by omega, sub2 [0, 1, 2, 3, 4, 5] 1 hb rfl rfl rfl rfl rfl rfl rfl rfl ?_⟩
    cbv
    exact rf
  ·replace hc := toI_nlt hc
   have him2 : i = m := by omega
   rcases hcase with ⟨h0, _⟩ | ⟨h0, k1, k2, k3, k4, k5⟩
   ·omega
   rw [him2, ← hm, List.take_length] at k1 k3
   rw [← k1, ← k2, ← k3]
   cbv
   refine Cl.by (v' := .tup [.agg [.int .i64 fun _ => toI N, .int .u64 fun _ => toI lo, .int .u64 fun _ => toI hi, .int .u8 fun _ => toI tg, .int .i64 fun _ => toI (h + 2)], .int .i64 fun _ => 0]) (hp' := [.res fun _ => SpaceR b db σ]) [.one 0] 1 hb rfl rfl (nodup_of rfl) rfl ?_ rfl ?_ ⟨rfl, rfl⟩
   ·cbv
    exact rf
   ·cbv
    exact rf
theorem tree_Len (b db n0 h0 : Nat) (r : Bool) (σ : Sp) (pg : PG) (E : List Nat) (l0 : Ent) (hI : Inv σ pg E) (hl : live σ n0 = true) (hR : Rep pg r h0 n0 l0) (he : EntOk l0) (hh : h0 ≤ 15) (hlen : l0.length ≤ 100000) :
  FnSpec Tryz.prog 17 [.res fun _ => SpaceR b db σ] [.pt fun _ => ⟨b, 0, none⟩, .int .u32 fun _ => toI n0] (fun y hp => y = .tup [.int .i64 fun _ => toI l0.length, .int .i64 fun _ => 0] ∧ hp = [.res fun _ => SpaceR b db σ]) := by
 have hlk := tree_look_f b db r σ pg E hI h0 n0 1 l0 (by omega) hl hR he hlen
 have hn0 : n0 ≠ 0 := by have := (asked_lt (live_asked hl)).1; omega
 unfold LookSh at hlk
 revert hlk
 generalize l0.length = N
 generalize hd l0 = lo
 generalize lst l0 = hi
 generalize leafTag r = tg
 intro hlk
 refine spec_cl mixed F17 rfl rfl rfl (fun Γ hΓ hb => ?_)
 cbv
 refine .no (eqF om) ?_
 cbv
 refine cP hΓ (hlk) [0] ?_
 rintro x hp' ⟨rfl, rfl⟩
 refine ⟨rfl, ?_⟩
 cbv
 intro bx
 cbv
 refine .no (neF rfl) ?_
 cbv
 exact Cl.tk 1 hb rfl rfl rfl ⟨rfl, rfl⟩
theorem len_none (b db : Nat) (σ : Sp) : FnSpec Tryz.prog 17 [.res fun _ => SpaceR b db σ] [.pt fun _ => ⟨b, 0, none⟩, .int .u32 fun _ => toI 0] (fun y hp => y = .tup [.int .i64 fun _ => 0, .int .i64 fun _ => 0] ∧ hp = [.res fun _ => SpaceR b db σ]) := by
 refine spec_cl mixed F17 rfl rfl rfl (fun Γ hΓ hb => ?_)
 cbv
 refine .yes (eqT rfl) ?_
 cbv
 exact Cl.same rfl ⟨rfl, rfl⟩
theorem tree_Check (b db n0 h0 : Nat) (r : Bool) (σ : Sp) (pg : PG) (E : List Nat) (l0 : Ent) (hI : Inv σ pg E) (hl : live σ n0 = true) (hR : Rep pg r h0 n0 l0) (he : EntOk l0) (hh : h0 ≤ 15) (hlen : l0.length ≤ 100000) :
  FnSpec Tryz.prog 18 [.res fun _ => SpaceR b db σ] [.pt fun _ => ⟨b, 0, none⟩, .int .u32 fun _ => toI n0] (fun y hp => y = .int .i64 (fun _ => 0) ∧ hp = [.res fun _ => SpaceR b db σ]) := by
 have hlk := tree_look_t b db r σ pg E hI h0 n0 1 l0 (by omega) hl hR he hlen
 have hn0 : n0 ≠ 0 := by have := (asked_lt (live_asked hl)).1; omega
 unfold LookSh at hlk
 revert hlk
 generalize l0.length = N
 generalize hd l0 = lo
 generalize lst l0 = hi
 generalize leafTag r = tg
 intro hlk
 refine spec_cl mixed F18 rfl rfl rfl (fun Γ hΓ hb => ?_)
 cbv
 refine .no (eqF om) ?_
 cbv
 refine cP hΓ (hlk) [0] ?_
 rintro x hp' ⟨rfl, rfl⟩
 refine ⟨rfl, ?_⟩
 cbv
 intro bx
 cbv
 exact Cl.tk 1 hb rfl rfl rfl ⟨rfl, rfl⟩
theorem check_none (b db : Nat) (σ : Sp) : FnSpec Tryz.prog 18 [.res fun _ => SpaceR b db σ] [.pt fun _ => ⟨b, 0, none⟩, .int .u32 fun _ => toI 0] (fun y hp => y = .int .i64 (fun _ => 0) ∧ hp = [.res fun _ => SpaceR b db σ]) := by
 refine spec_cl mixed F18 rfl rfl rfl (fun Γ hΓ hb => ?_)
 cbv
 refine .yes (eqT rfl) ?_
 cbv
 exact Cl.same rfl ⟨rfl, rfl⟩
end Go.Proofs.YtfoffehokhkohaaGreat
