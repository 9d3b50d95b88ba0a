/- Part 25 of what is proved in the last text (packed by a program of mine). -/
import Derived.Test.YtfoffehokhkohaaGreatK11
import Derived.Test.YtfoffehokhkohaaGreatK12
import Derived.Test.YtfoffehokhkohaaGreatK13
import Derived.Test.YtfoffehokhkohaaGreatK24
set_option linter.all false
set_option maxRecDepth 20000
namespace Go.Proofs.YtfoffehokhkohaaGreat
open Go
variable [VPg]
def OpenR (b db : Nat) (σ : Sp) (pg : PG) (E : List Nat) (r : Bool) (h : Nat) (l : Ent) : KV := fun y hp => ∃ (q : NQ) (x : Nd) (ls : List Ent) (σ' : Sp), y = .tup [ndV 2 3 1 q x, .int .i64 fun _ => 0] ∧ hp = appL [.res fun _ => SpaceR b db σ'] (ndL q x true) ∧
 NR pg r h x ls ∧ l = ls.flatten ∧ least h ≤ ls.length ∧ ls.length ≤ 512 ∧ NdOk x ∧ ls.length ≤ mostE σ x.tag ∧ Inv σ' pg (x.kids ++ E) ∧ Step 0 σ σ'
theorem share_step {σ : Sp} {pg : PG} {E : List Nat} (hI : Inv σ pg E) {k : Nat} (hk : live σ k = true) (hE : E.length ≤ 45000) : (spShare σ k).1 = 0 ∧ Inv (spShare σ k).2 pg (k :: E) ∧ Step 0 σ (spShare σ k).2 := by
 have hc := hI.now_le (live_asked hk)
 obtain ⟨h1, h2⟩ := hI.share hk (by omega)
 unfold spShare
 rw [if_pos (live_asked hk), h1]
 exact ⟨rfl, h2⟩
set_option maxHeartbeats 1000000 in
theorem tree_open (b db n h : Nat) (r : Bool) (σ : Sp) (pg : PG) (E : List Nat) (l : Ent) (hI : Inv σ pg (n :: E)) (hR : Rep pg r h n l) (he : EntOk l) (hE : E.length ≤ 40000) :
  FnSpec Tryz.prog 97 [.res fun _ => SpaceR b db σ] [.pt fun _ => ⟨b, 0, none⟩, .int .u32 fun _ => toI n] (OpenR b db σ pg E r h l) := by
 have hl : live σ n = true := hI.live_ext List.mem_cons_self
 obtain ⟨x, ls, g1, g2, g3, g4, g5, g6, g7, g8⟩ := hR.got hI hl he
 have hget := tree_get b db n σ pg x g6 g7 hI.ok hl (hI.has n hl) g2
 have hkd : x.kids.length ≤ 512 := by rw [g1.kids]; split <;> omega
 have hkl : ∀ (σ' : Sp) (F : List Nat), Inv σ' pg (F ++ n :: E) → ∀ k ∈ x.kids, live σ' k = true := fun σ' F hI' k hk => hI'.live_kid (hI'.live_ext (List.mem_append_right _ List.mem_cons_self)) (by rw [g2]; exact hk)
 obtain ⟨m, hm⟩ : ∃ m, x.kids.length = m := ⟨_, rfl⟩
 rw [hm] at hkd
 refine spec_cl mixed F97 rfl rfl rfl (fun Γ hΓ hb => ?_)
 cbv
 intro b1
 cbv
 refine cP hΓ (hget) [0] ?_
 rintro x hp' ⟨q, rfl, rfl⟩
 refine ⟨rfl, ?_⟩
 cbv
 intro b2
 cbv
 refine .no (neF rfl) ?_
 cbv
 refine loopJ (α := Nat × Sp) (fun (i, σ') => i ≤ m ∧ Inv σ' pg (x.kids.take i ++ n :: E) ∧ Step 0 σ σ')
  (fun (i, σ') => ⟨40, [(0, .pt fun _ => ⟨b, 0, none⟩), (1, .int .u32 fun _ => toI n), (4, .bp 1 0), (6, .bp 5 0), (22, .sl 2 (fun _ => q.d.a) (fun _ => 0) (fun _ => x.kids.length) (fun _ => q.d.e)), (23, .int .i64 fun _ => toI m), (24, .int .i64 fun _ => toI i)],
   [.res fun _ => SpaceR b db σ', .box b1 90 [.int .u8 fun _ => 0, .nils, .nils, .nils] true, .arr q.d.ad (fun _ => x.kids.length) (fun _ => q.d.e) [.nat .u32 fun _ => x.kids] true, .arr q.k.ad (fun _ => x.keys.length) (fun _ => q.k.e) [.nat .u64 fun _ => x.keys] true, .arr q.v.ad (fun _ => x.vals.length) (fun _ => q.v.e) [.nat .u64 fun _ => x.vals] true,
    .box b2 90 [.int .u8 fun _ => toI x.tag, .sl 3 (fun _ => q.k.a) (fun _ => 0) (fun _ => x.keys.length) (fun _ => q.k.e), .sl 4 (fun _ => q.v.a) (fun _ => 0) (fun _ => x.vals.length) (fun _ => q.v.e), .sl 2 (fun _ => q.d.a) (fun _ => 0) (fun _ => x.kids.length) (fun _ => q.d.e)] true], []⟩)
  (fun (i, _) => m - i) (0, σ) ⟨Nat.zero_le _, hI, Step.refl _⟩ (sub2 [0, 1, 2, 3, 4, 5] 1 hb rfl rfl rfl rfl rfl rfl rfl rfl ?_) ?_
 ·cbv
  exact rf
 rintro ⟨i, σ'⟩ hJ
 have hJ : i ≤ m ∧ Inv σ' pg (x.kids.take i ++ n :: E) ∧ Step 0 σ σ' := hJ
 obtain ⟨j1, j2, j3⟩ := hJ
 cbv
 refine ⟨fun hc => ?_, fun hc => ?_⟩
 ·replace hc := toI_lt hc
  obtain ⟨kn, hkn⟩ : ∃ kn, x.kids[i]? = some kn := ⟨_, List.getElem?_eq_getElem (by omega)⟩
  have hgn : x.kids.getD (0 + (toI i).toNat) 0 = kn := by rw [toI_toNat, Nat.zero_add, List.getD_eq_getElem?_getD, hkn]; rfl
  have hkv := hkl σ' _ j2 kn (List.mem_of_getElem? hkn)
  obtain ⟨s1, s2, s3⟩ := share_step j2 hkv (by rw [List.length_append, List.length_cons, List.length_take]; omega)
  have hkb := (asked_lt (live_asked hkv)).2.1
  have hb4 := j2.ok.b4
  have hsh := spc_Share b db kn σ' (by omega) j2.ok
  rw [s1] at hsh
  have htk : x.kids.take (i + 1) = x.kids.take i ++ [kn] := by rw [List.take_add_one, hkn]; rfl
  revert hsh s2 s3
  generalize (spShare σ' kn).2 = σ2
  intro s2 s3 hsh
  have s4 : Inv σ2 pg (x.kids.take (i + 1) ++ n :: E) := by
   rw [htk, List.append_assoc]
   exact s2.perm List.perm_middle.symm
  cbv
  repeat ((first | refine VC.mk rf ?_ | refine ADD.mk rf ?_); cbv)
  rw [hgn]
  refine cP hΓ (hsh) [0] ?_
  rintro x hp' ⟨rfl, rfl⟩
  refine ⟨rfl, ?_⟩
  cbv
  refine .no (neF rfl) ?_
  cbv
  refine .mk rf ?_
  cbv
  refine ⟨(i + 1, σ2), ⟨by omega, s4, j3.trans s3⟩, show m - (i + 1) < m - i by omega, sub2 [0, 1, 2, 3, 4, 5] 1 hb rfl rfl rfl rfl rfl rfl rfl rfl ?_⟩
  cbv
  exact rf
 ·replace hc := toI_nlt hc
  have him : i = m := by omega
  rw [him, ← hm, List.take_length] at j2
  have hdr := spc_Drop b db n σ' pg (x.kids ++ E) (j2.perm List.perm_middle) (by rw [List.length_append]; omega)
  cbv
  refine cP hΓ (hdr) [0] ?_
  rintro x hp' ⟨σ2, rfl, rfl, k1, k2⟩
  refine ⟨rfl, ?_⟩
  cbv
  refine VC.mk rfl ?_
  cbv
  refine Cl.by (v' := .tup [ndV 2 3 1 q x, .int .i64 fun _ => 0]) (hp' := appL [.res fun _ => SpaceR b db σ2] (ndL q x true)) [.one 0, .one 2, .one 3, .one 4] 1 hb rfl rfl (nodup_of rfl) rfl ?_ rfl ?_ ⟨q, x, ls, σ2, rfl, rfl, g1, g3, g4, g5, g6, g8, k1, (j3.trans k2).le (by omega)⟩
  ·cbv
   exact rf
  ·cbv
   exact rf
end Go.Proofs.YtfoffehokhkohaaGreat
set_option maxRecDepth 20000
namespace Go.Proofs.YtfoffehokhkohaaGreat
open Go
variable [VPg]
def eput (l : Ent) (k v : Nat) : Ent := l.filter (fun e => decide (e.1 < k)) ++ (k, v) :: l.filter (fun e => decide (k < e.1))
def ecut (l : Ent) (k : Nat) : Ent := l.filter (fun e => decide (e.1 < k)) ++ l.filter (fun e => decide (k < e.1))
theorem ent_split : ∀ {l : Ent} (h : l.Pairwise fun a b => a.1 < b.1) (k : Nat), l.take (wh (l.map (·.1)) k) = l.filter (fun e => decide (e.1 < k)) ∧ l.drop (wh (l.map (·.1)) k + if isAt (l.map (·.1)) k = true then 1 else 0) = l.filter (fun e => decide (k < e.1))
 | [], _, k => by simp [isAt]
 | e :: l, h, k => by
  obtain ⟨ih1, ih2⟩ := ent_split (List.pairwise_cons.1 h).2 k
  have hlt := (List.pairwise_cons.1 h).1
  by_cases hek : e.1 < k
  ·have hw : wh ((e :: l).map (·.1)) k = wh (l.map (·.1)) k + 1 := by
    unfold wh; rw [List.map_cons, List.takeWhile_cons_of_pos (by simpa using hek), List.length_cons]
   have hat : isAt ((e :: l).map (·.1)) k = isAt (l.map (·.1)) k := by
    unfold isAt; rw [hw]; simp
   refine ⟨by rw [hw, List.take_succ_cons, ih1, List.filter_cons_of_pos (by simpa using hek)], ?_⟩
   rw [hw, hat, List.filter_cons_of_neg (by simp; omega), ← ih2]
   have e1 : ∀ c : Nat, wh (l.map (·.1)) k + 1 + c = (wh (l.map (·.1)) k + c) + 1 := fun c => by omega
   rw [e1, List.drop_succ_cons]
  ·have hw : wh ((e :: l).map (·.1)) k = 0 := by
    unfold wh; rw [List.map_cons, List.takeWhile_cons_of_neg (by simpa using hek)]; rfl
   have hnil : l.filter (fun e => decide (e.1 < k)) = [] := List.filter_eq_nil_iff.2 fun a ha => by have := hlt a ha; simp; omega
   have hat : isAt ((e :: l).map (·.1)) k = (e.1 == k) := by unfold isAt; rw [hw]; simp
   refine ⟨by rw [hw, List.filter_cons_of_neg (by simpa using hek), hnil]; rfl, ?_⟩
   rw [hw, hat]
   by_cases hk : e.1 = k
   ·rw [if_pos (by simpa using hk), List.filter_cons_of_neg (by simp; omega)]
    show l = _
    exact (List.filter_eq_self.2 fun a ha => by have := hlt a ha; simp; omega).symm
   ·rw [if_neg (by simpa using hk), List.filter_cons_of_pos (by simp; omega)]
    show e :: l = _
    rw [List.filter_eq_self.2 fun a ha => by have := hlt a ha; simp; omega]
def nbL (b db : Nat) (σ : Sp) (bx : Nat) (q : NQ) (x : Nd) : List Ch :=
 [.res fun _ => SpaceR b db σ, .box bx 90 [.int .u8 fun _ => toI x.tag, .sl 3 (fun _ => q.k.a) (fun _ => 0) (fun _ => x.keys.length) (fun _ => q.k.e), .sl 4 (fun _ => q.v.a) (fun _ => 0) (fun _ => x.vals.length) (fun _ => q.v.e), .sl 2 (fun _ => q.d.a) (fun _ => 0) (fun _ => x.kids.length) (fun _ => q.d.e)] true,
  .arr q.d.ad (fun _ => x.kids.length) (fun _ => q.d.e) [.nat .u32 fun _ => x.kids] true, .arr q.k.ad (fun _ => x.keys.length) (fun _ => q.k.e) [.nat .u64 fun _ => x.keys] true, .arr q.v.ad (fun _ => x.vals.length) (fun _ => q.v.e) [.nat .u64 fun _ => x.vals] true]
def UpR (b db bx : Nat) (σ : Sp) (q : NQ) (x x' : Nd) : KV := fun y hp => ∃ (ka kad va vad : Option Addr) (ke ve : Nat), y = .int .i64 (fun _ => 0) ∧
 hp = [.res fun _ => SpaceR b db σ, .box bx 90 [.int .u8 fun _ => toI x.tag, .sl 5 (fun _ => ka) (fun _ => 0) (fun _ => x'.keys.length) (fun _ => ke), .sl 6 (fun _ => va) (fun _ => 0) (fun _ => x'.vals.length) (fun _ => ve), .sl 2 (fun _ => q.d.a) (fun _ => 0) (fun _ => x.kids.length) (fun _ => q.d.e)] true,
  .arr q.d.ad (fun _ => x.kids.length) (fun _ => q.d.e) [.nat .u32 fun _ => x.kids] true, .gone q.k.ad 1, .gone q.v.ad 1, .arr kad (fun _ => x'.keys.length) (fun _ => ke) [.nat .u64 fun _ => x'.keys] true, .arr vad (fun _ => x'.vals.length) (fun _ => ve) [.nat .u64 fun _ => x'.vals] true]
set_option maxHeartbeats 1000000 in
theorem upsert_leaf (b db bx key val : Nat) (σ : Sp) (q : NQ) (x : Nd) (l : Ent) (hx : x = leafNd false l) (he : EntOk l) (hlen : l.length ≤ 1000) (hkey : key < 18446744073709551616) (hval : val < 18446744073709551616) :
  FnSpec Tryz.prog 42 (nbL b db σ bx q x) [.bp 1 0, .pt fun _ => ⟨b, 0, none⟩, .int .u64 fun _ => toI key, .int .u64 fun _ => toI val] (UpR b db bx σ q x (leafNd false (eput l key val))) := by
 have hkeys : x.keys = l.map (·.1) := by rw [hx]; rfl
 have hvals : x.vals = l.map (·.2) := by rw [hx]; rfl
 have htag : x.tag = 4 := by rw [hx]; rfl
 have hkl : x.keys.length = l.length := by rw [hkeys, List.length_map]
 have hvl : x.vals.length = l.length := by rw [hvals, List.length_map]
 obtain ⟨s1, s2⟩ := ent_split he.pw key
 rw [← hkeys] at s1 s2
 have hw := wh_le x.keys key
 have hbs := binSearch x.keys.length x.keys.length q.k.e q.k.e key q.k.a q.k.ad x.keys rfl (by omega) (by rw [hkeys]; exact he.srt) hkey (fun k hk => by
  rw [hkeys] at hk
  obtain ⟨e, he2, rfl⟩ := List.mem_map.1 hk
  exact (he.lt e he2).1)
 have hyes := isAt_get (ks := x.keys) (key := key)
 obtain ⟨x', hx'⟩ : ∃ x', x' = leafNd false (eput l key val) := ⟨_, rfl⟩
 rw [← hx']
 have hk' : x'.keys = x.keys.take (wh x.keys key) ++ [key] ++ x.keys.drop (wh x.keys key + if isAt x.keys key = true then 1 else 0) := by
  rw [hx']
  show (eput l key val).map (·.1) = _
  unfold eput
  rw [List.map_append, List.map_cons, ← s1, ← s2, List.map_take, List.map_drop, ← hkeys, List.append_assoc]; rfl
 have hv' : x'.vals = x.vals.take (wh x.keys key) ++ [val] ++ x.vals.drop (wh x.keys key + if isAt x.keys key = true then 1 else 0) := by
  rw [hx']
  show (eput l key val).map (·.2) = _
  unfold eput
  rw [List.map_append, List.map_cons, ← s1, ← s2, List.map_take, List.map_drop, ← hvals, List.append_assoc]; rfl
 revert hbs hw hyes hk' hv'
 generalize wh x.keys key = i
 generalize isAt x.keys key = bb
 intro hw hbs hyes hk' hv'
 have hrf := refs_no
 obtain ⟨n', hn'⟩ : ∃ n', n' = x'.keys.length := ⟨_, rfl⟩
 have hnv : x'.vals.length = n' := by rw [hn', hx']; show (List.map _ _).length = (List.map _ _).length; rw [List.length_map, List.length_map]
 have hnk := congrArg List.length hk'
 rw [List.length_append, List.length_append, List.length_take, List.length_drop, List.length_cons, List.length_nil] at hnk
 refine spec_cl mixed F42 rfl rfl rfl (fun Γ hΓ hb => ?_)
 cbv
 refine cP hΓ (hbs) [3] ?_
 rintro x hp' ⟨rfl, rfl⟩
 refine ⟨rfl, ?_⟩
 cbv
 cases bb with
 | true =>
  rw [if_pos rfl] at hnk
  obtain ⟨hil, _⟩ := hyes rfl
  rw [if_pos rfl] at hk' hv'
  have hrk := fun b5 : Nat => replace_u64 q.k.ad (some ⟨b5, 0, none⟩) q.k.a (some ⟨b5, 0, none⟩) x.keys.length q.k.e i 1 0 0 x.keys [key] rfl rfl (by omega) (by omega) (by omega) (by omega)
  have hrv := fun b5 : Nat => replace_u64 q.v.ad (some ⟨b5, 0, none⟩) q.v.a (some ⟨b5, 0, none⟩) x.vals.length q.v.e i 1 0 0 x.vals [val] rfl rfl (by omega) (by omega) (by omega) (by omega)
  rw [← hk', show x.keys.length - 1 + 1 = n' by omega] at hrk
  rw [← hv', show x.vals.length - 1 + 1 = n' by omega] at hrv
  refine .yes rfl ?_
  cbv
  rw [htag]
  refine cP hΓ (hrf ⟨q.k.a, 0, x.keys.length, q.k.e, q.k.ad, x.keys.length, q.k.e, x.keys⟩ ⟨q.v.a, 0, x.vals.length, q.v.e, q.v.ad, x.vals.length, q.v.e, x.vals⟩ ⟨q.d.a, 0, x.kids.length, q.d.e, q.d.ad, x.kids.length, q.d.e, x.kids⟩) [3, 4, 2] ?_
  rintro x hp' ⟨rfl, rfl⟩
  refine ⟨rfl, ?_⟩
  cbv
  refine .yes rfl ?_
  cbv
  repeat ((first | refine VC.mk rf ?_ | refine ADD.mk rf ?_); cbv)
  intro b5
  cbv
  rw [toI_toNat]
  refine cP hΓ (hrk b5) [3, 5] ?_
  rintro x hp' ⟨ka, kad, ke, rfl, rfl⟩
  refine ⟨rfl, ?_⟩
  cbv
  refine cP hΓ (hrf ⟨ka, 0, n', ke, kad, n', ke, x'.keys⟩ ⟨q.v.a, 0, x.vals.length, q.v.e, q.v.ad, x.vals.length, q.v.e, x.vals⟩ ⟨q.d.a, 0, x.kids.length, q.d.e, q.d.ad, x.kids.length, q.d.e, x.kids⟩) [6, 4, 2] ?_
  rintro x hp' ⟨rfl, rfl⟩
  refine ⟨rfl, ?_⟩
  cbv
  repeat ((first | refine VC.mk rf ?_ | refine ADD.mk rf ?_); cbv)
  intro b6
  cbv
  rw [toI_toNat]
  refine cP hΓ (hrv b6) [4, 7] ?_
  rintro x hp' ⟨va, vad, ve, rfl, rfl⟩
  refine ⟨rfl, ?_⟩
  cbv
  refine Cl.by (v' := .int .i64 fun _ => 0) (hp' := [.res fun _ => SpaceR b db σ, .box bx 90 [.int .u8 fun _ => toI x.tag, .sl 5 (fun _ => ka) (fun _ => 0) (fun _ => x'.keys.length) (fun _ => ke), .sl 6 (fun _ => va) (fun _ => 0) (fun _ => x'.vals.length) (fun _ => ve), .sl 2 (fun _ => q.d.a) (fun _ => 0) (fun _ => x.kids.length) (fun _ => q.d.e)] true,
   .arr q.d.ad (fun _ => x.kids.length) (fun _ => q.d.e) [.nat .u32 fun _ => x.kids] true, .gone q.k.ad 1, .gone q.v.ad 1, .arr kad (fun _ => x'.keys.length) (fun _ => ke) [.nat .u64 fun _ => x'.keys] true, .arr vad (fun _ => x'.vals.length) (fun _ => ve) [.nat .u64 fun _ => x'.vals] true])
   [.one 0, .one 1, .one 2, .one 3, .one 4, .one 6, .one 8] 5 hb rfl rfl (nodup_of rfl) rfl ?_ rfl ?_ ⟨ka, kad, va, vad, ke, ve, rfl, rfl⟩
  ·cbv
   exact rf
  ·cbv
   exact rf
 | false =>
  rw [if_neg (by simp)] at hnk
  rw [if_neg (by simp), Nat.add_zero] at hk' hv'
  have hrk := fun b5 : Nat => replace0_u64 q.k.ad (some ⟨b5, 0, none⟩) q.k.a (some ⟨b5, 0, none⟩) x.keys.length q.k.e i 1 0 0 x.keys [key] rfl rfl (by omega) (by omega) (by omega) (by omega)
  have hrv := fun b5 : Nat => replace0_u64 q.v.ad (some ⟨b5, 0, none⟩) q.v.a (some ⟨b5, 0, none⟩) x.vals.length q.v.e i 1 0 0 x.vals [val] rfl rfl (by omega) (by omega) (by omega) (by omega)
  rw [← hk', show x.keys.length + 1 = n' by omega] at hrk
  rw [← hv', show x.vals.length + 1 = n' by omega] at hrv
  refine .no rfl ?_
  cbv
  refine .no rfl ?_
  cbv
  rw [htag]
  repeat ((first | refine VC.mk rf ?_ | refine ADD.mk rf ?_); cbv)
  intro b5
  cbv
  rw [toI_toNat]
  refine cP hΓ (hrk b5) [3, 5] ?_
  rintro x hp' ⟨ka, kad, ke, rfl, rfl⟩
  refine ⟨rfl, ?_⟩
  cbv
  refine cP hΓ (hrf ⟨ka, 0, n', ke, kad, n', ke, x'.keys⟩ ⟨q.v.a, 0, x.vals.length, q.v.e, q.v.ad, x.vals.length, q.v.e, x.vals⟩ ⟨q.d.a, 0, x.kids.length, q.d.e, q.d.ad, x.kids.length, q.d.e, x.kids⟩) [6, 4, 2] ?_
  rintro x hp' ⟨rfl, rfl⟩
  refine ⟨rfl, ?_⟩
  cbv
  repeat ((first | refine VC.mk rf ?_ | refine ADD.mk rf ?_); cbv)
  intro b6
  cbv
  rw [toI_toNat]
  refine cP hΓ (hrv b6) [4, 7] ?_
  rintro x hp' ⟨va, vad, ve, rfl, rfl⟩
  refine ⟨rfl, ?_⟩
  cbv
  refine Cl.by (v' := .int .i64 fun _ => 0) (hp' := [.res fun _ => SpaceR b db σ, .box bx 90 [.int .u8 fun _ => toI x.tag, .sl 5 (fun _ => ka) (fun _ => 0) (fun _ => x'.keys.length) (fun _ => ke), .sl 6 (fun _ => va) (fun _ => 0) (fun _ => x'.vals.length) (fun _ => ve), .sl 2 (fun _ => q.d.a) (fun _ => 0) (fun _ => x.kids.length) (fun _ => q.d.e)] true,
   .arr q.d.ad (fun _ => x.kids.length) (fun _ => q.d.e) [.nat .u32 fun _ => x.kids] true, .gone q.k.ad 1, .gone q.v.ad 1, .arr kad (fun _ => x'.keys.length) (fun _ => ke) [.nat .u64 fun _ => x'.keys] true, .arr vad (fun _ => x'.vals.length) (fun _ => ve) [.nat .u64 fun _ => x'.vals] true])
   [.one 0, .one 1, .one 2, .one 3, .one 4, .one 6, .one 8] 5 hb rfl rfl (nodup_of rfl) rfl ?_ rfl ?_ ⟨ka, kad, va, vad, ke, ve, rfl, rfl⟩
  ·cbv
   exact rf
  ·cbv
   exact rf
end Go.Proofs.YtfoffehokhkohaaGreat
set_option maxRecDepth 20000
namespace Go.Proofs.YtfoffehokhkohaaGreat
open Go
variable [VPg]
def UpP (b db bx : Nat) (σ : Sp) (pg : PG) (E : List Nat) (q : NQ) (x x' : Nd) : KV := fun y hp => ∃ (ka kad va vad : Option Addr) (ke ve : Nat) (σ' : Sp), y = .int .i64 (fun _ => 0) ∧ Inv σ' pg (x'.kids ++ E) ∧ Step 0 σ σ' ∧
 hp = [.res fun _ => SpaceR b db σ', .box bx 90 [.int .u8 fun _ => toI x.tag, .sl 5 (fun _ => ka) (fun _ => 0) (fun _ => x'.keys.length) (fun _ => ke), .sl 4 (fun _ => q.v.a) (fun _ => 0) (fun _ => x.vals.length) (fun _ => q.v.e), .sl 6 (fun _ => va) (fun _ => 0) (fun _ => x'.kids.length) (fun _ => ve)] true,
  .gone q.d.ad 1, .gone q.k.ad 1, .arr q.v.ad (fun _ => x.vals.length) (fun _ => q.v.e) [.nat .u64 fun _ => x.vals] true, .arr kad (fun _ => x'.keys.length) (fun _ => ke) [.nat .u64 fun _ => x'.keys] true, .arr vad (fun _ => x'.kids.length) (fun _ => ve) [.nat .u32 fun _ => x'.kids] true]
set_option maxHeartbeats 1000000 in
theorem upsert_refs (b db bx key val : Nat) (σ : Sp) (pg : PG) (E : List Nat) (q : NQ) (x : Nd) (l : Ent) (hx : x = leafNd true l) (he : EntOk l) (hlen : l.length ≤ 1000) (hkey : key < 18446744073709551616) (hval : val < 4294967296) (hI : Inv σ pg (x.kids ++ val :: E)) (hE : E.length ≤ 40000) :
  FnSpec Tryz.prog 42 (nbL b db σ bx q x) [.bp 1 0, .pt fun _ => ⟨b, 0, none⟩, .int .u64 fun _ => toI key, .int .u64 fun _ => toI val] (UpP b db bx σ pg E q x (leafNd true (eput l key val))) := by
 have hkeys : x.keys = l.map (·.1) := by rw [hx]; rfl
 have hvals : x.kids = l.map (·.2) := by rw [hx]; rfl
 have htag : x.tag = 5 := by rw [hx]; rfl
 have hkl : x.keys.length = l.length := by rw [hkeys, List.length_map]
 have hvl : x.kids.length = l.length := by rw [hvals, List.length_map]
 obtain ⟨s1, s2⟩ := ent_split he.pw key
 rw [← hkeys] at s1 s2
 have hw := wh_le x.keys key
 have hbs := binSearch x.keys.length x.keys.length q.k.e q.k.e key q.k.a q.k.ad x.keys rfl (by omega) (by rw [hkeys]; exact he.srt) hkey (fun k hk => by
  rw [hkeys] at hk
  obtain ⟨e, he2, rfl⟩ := List.mem_map.1 hk
  exact (he.lt e he2).1)
 have hyes := isAt_get (ks := x.keys) (key := key)
 obtain ⟨x', hx'⟩ : ∃ x', x' = leafNd true (eput l key val) := ⟨_, rfl⟩
 rw [← hx']
 have hk' : x'.keys = x.keys.take (wh x.keys key) ++ [key] ++ x.keys.drop (wh x.keys key + if isAt x.keys key = true then 1 else 0) := by
  rw [hx']
  show (eput l key val).map (·.1) = _
  unfold eput
  rw [List.map_append, List.map_cons, ← s1, ← s2, List.map_take, List.map_drop, ← hkeys, List.append_assoc]; rfl
 have hv' : x'.kids = x.kids.take (wh x.keys key) ++ [val] ++ x.kids.drop (wh x.keys key + if isAt x.keys key = true then 1 else 0) := by
  rw [hx']
  show (eput l key val).map (·.2) = _
  unfold eput
  rw [List.map_append, List.map_cons, ← s1, ← s2, List.map_take, List.map_drop, ← hvals, List.append_assoc]; rfl
 revert hbs hw hyes hk' hv'
 generalize wh x.keys key = i
 generalize isAt x.keys key = bb
 intro hw hbs hyes hk' hv'
 have hrf := refs_yes 5 (by decide)
 have hwr : wr .u32 (toI val) = toI val := wr_u32 om om
 obtain ⟨n', hn'⟩ : ∃ n', n' = x'.keys.length := ⟨_, rfl⟩
 have hnv : x'.kids.length = n' := by rw [hn', hx']; show (List.map _ _).length = (List.map _ _).length; rw [List.length_map, List.length_map]
 have hnk := congrArg List.length hk'
 rw [List.length_append, List.length_append, List.length_take, List.length_drop, List.length_cons, List.length_nil] at hnk
 refine spec_cl mixed F42 rfl rfl rfl (fun Γ hΓ hb => ?_)
 cbv
 refine cP hΓ (hbs) [3] ?_
 rintro x hp' ⟨rfl, rfl⟩
 refine ⟨rfl, ?_⟩
 cbv
 cases bb with
 | true =>
  rw [if_pos rfl] at hnk
  obtain ⟨hil, _⟩ := hyes rfl
  rw [if_pos rfl] at hk' hv'
  have hrk := fun b5 : Nat => replace_u64 q.k.ad (some ⟨b5, 0, none⟩) q.k.a (some ⟨b5, 0, none⟩) x.keys.length q.k.e i 1 0 0 x.keys [key] rfl rfl (by omega) (by omega) (by omega) (by omega)
  have hrv := fun b5 : Nat => replace_u32 q.d.ad (some ⟨b5, 0, none⟩) q.d.a (some ⟨b5, 0, none⟩) x.kids.length q.d.e i 1 0 0 x.kids [val] rfl rfl (by omega) (by omega) (by omega) (by omega)
  rw [← hk', show x.keys.length - 1 + 1 = n' by omega] at hrk
  rw [← hv', show x.kids.length - 1 + 1 = n' by omega] at hrv
  obtain ⟨kd, hkd⟩ : ∃ kd, x.kids.getD (0 + (toI i).toNat) 0 = kd := ⟨_, rfl⟩
  have hkd2 : x.kids = x.kids.take i ++ (kd :: x.kids.drop (i + 1)) := by
   rw [toI_toNat, Nat.zero_add, List.getD_eq_getElem?_getD, List.getElem?_eq_getElem (by omega)] at hkd
   have : x.kids[i]'(by omega) = kd := hkd
   rw [← this, List.getElem_cons_drop, List.take_append_drop]
  have hI2 : Inv σ pg (kd :: (x.kids.take i ++ (x.kids.drop (i + 1) ++ val :: E))) := by
   refine hI.perm ?_
   conv => lhs; rw [hkd2]
   rw [List.append_assoc]
   exact List.perm_middle
  have hdr := spc_Drop b db kd σ pg _ hI2 (by rw [List.length_append, List.length_append, List.length_cons, List.length_take, List.length_drop]; omega)
  refine .yes rfl ?_
  cbv
  rw [htag]
  refine cP hΓ (hrf ⟨q.k.a, 0, x.keys.length, q.k.e, q.k.ad, x.keys.length, q.k.e, x.keys⟩ ⟨q.v.a, 0, x.vals.length, q.v.e, q.v.ad, x.vals.length, q.v.e, x.vals⟩ ⟨q.d.a, 0, x.kids.length, q.d.e, q.d.ad, x.kids.length, q.d.e, x.kids⟩) [3, 4, 2] ?_
  rintro x hp' ⟨rfl, rfl⟩
  refine ⟨rfl, ?_⟩
  cbv
  repeat ((first | refine VC.mk rf ?_ | refine ADD.mk rf ?_); cbv)
  rw [hkd]
  refine cP hΓ (hdr) [0] ?_
  rintro x hp' ⟨σ', rfl, rfl, k1, hst'⟩
  refine ⟨rfl, ?_⟩
  cbv
  have hI' : Inv σ' pg (x'.kids ++ E) := by
   rw [hv']
   refine k1.perm ?_
   rw [List.append_assoc, List.append_assoc]
   exact (List.perm_middle (l₁ := x.kids.drop (i + 1)) (a := val) (l₂ := E)).append_left _
  refine .yes rfl ?_
  cbv
  repeat ((first | refine VC.mk rf ?_ | refine ADD.mk rf ?_); cbv)
  intro b5
  cbv
  rw [toI_toNat]
  refine cP hΓ (hrk b5) [3, 5] ?_
  rintro x hp' ⟨ka, kad, ke, rfl, rfl⟩
  refine ⟨rfl, ?_⟩
  cbv
  refine cP hΓ (hrf ⟨ka, 0, n', ke, kad, n', ke, x'.keys⟩ ⟨q.v.a, 0, x.vals.length, q.v.e, q.v.ad, x.vals.length, q.v.e, x.vals⟩ ⟨q.d.a, 0, x.kids.length, q.d.e, q.d.ad, x.kids.length, q.d.e, x.kids⟩) [6, 4, 2] ?_
  rintro x hp' ⟨rfl, rfl⟩
  refine ⟨rfl, ?_⟩
  cbv
  repeat ((first | refine VC.mk rf ?_ | refine ADD.mk rf ?_); cbv)
  intro b6
  cbv
  rw [hwr, toI_toNat]
  refine cP hΓ (hrv b6) [2, 7] ?_
  rintro x hp' ⟨va, vad, ve, rfl, rfl⟩
  refine ⟨rfl, ?_⟩
  cbv
  refine Cl.by (v' := .int .i64 fun _ => 0) (hp' := [.res fun _ => SpaceR b db σ', .box bx 90 [.int .u8 fun _ => toI x.tag, .sl 5 (fun _ => ka) (fun _ => 0) (fun _ => x'.keys.length) (fun _ => ke), .sl 4 (fun _ => q.v.a) (fun _ => 0) (fun _ => x.vals.length) (fun _ => q.v.e), .sl 6 (fun _ => va) (fun _ => 0) (fun _ => x'.kids.length) (fun _ => ve)] true,
   .gone q.d.ad 1, .gone q.k.ad 1, .arr q.v.ad (fun _ => x.vals.length) (fun _ => q.v.e) [.nat .u64 fun _ => x.vals] true, .arr kad (fun _ => x'.keys.length) (fun _ => ke) [.nat .u64 fun _ => x'.keys] true, .arr vad (fun _ => x'.kids.length) (fun _ => ve) [.nat .u32 fun _ => x'.kids] true])
   [.one 0, .one 1, .one 2, .one 3, .one 4, .one 6, .one 8] 5 hb rfl rfl (nodup_of rfl) rfl ?_ rfl ?_ ⟨ka, kad, va, vad, ke, ve, σ', rfl, hI', hst', rfl⟩
  ·cbv
   exact rf
  ·cbv
   exact rf
 | false =>
  rw [if_neg (by simp)] at hnk
  rw [if_neg (by simp), Nat.add_zero] at hk' hv'
  have hrk := fun b5 : Nat => replace0_u64 q.k.ad (some ⟨b5, 0, none⟩) q.k.a (some ⟨b5, 0, none⟩) x.keys.length q.k.e i 1 0 0 x.keys [key] rfl rfl (by omega) (by omega) (by omega) (by omega)
  have hrv := fun b5 : Nat => replace0_u32 q.d.ad (some ⟨b5, 0, none⟩) q.d.a (some ⟨b5, 0, none⟩) x.kids.length q.d.e i 1 0 0 x.kids [val] rfl rfl (by omega) (by omega) (by omega) (by omega)
  rw [← hk', show x.keys.length + 1 = n' by omega] at hrk
  rw [← hv', show x.kids.length + 1 = n' by omega] at hrv
  have hI' : Inv σ pg (x'.kids ++ E) := by
   rw [hv']
   refine hI.perm ?_
   conv => lhs; rw [← List.take_append_drop i x.kids]
   rw [List.append_assoc, List.append_assoc, List.append_assoc]
   exact (List.perm_middle (l₁ := x.kids.drop i) (a := val) (l₂ := E)).append_left _
  have hst' := Step.refl σ
  obtain ⟨σ', hσ'⟩ : ∃ σ', σ' = σ := ⟨_, rfl⟩
  rw [← hσ'] at hI'
  have hst' : Step 0 σ σ' := by rw [hσ']; exact Step.refl σ
  subst hσ'
  refine .no rfl ?_
  cbv
  refine .no rfl ?_
  cbv
  rw [htag]
  repeat ((first | refine VC.mk rf ?_ | refine ADD.mk rf ?_); cbv)
  intro b5
  cbv
  rw [toI_toNat]
  refine cP hΓ (hrk b5) [3, 5] ?_
  rintro x hp' ⟨ka, kad, ke, rfl, rfl⟩
  refine ⟨rfl, ?_⟩
  cbv
  refine cP hΓ (hrf ⟨ka, 0, n', ke, kad, n', ke, x'.keys⟩ ⟨q.v.a, 0, x.vals.length, q.v.e, q.v.ad, x.vals.length, q.v.e, x.vals⟩ ⟨q.d.a, 0, x.kids.length, q.d.e, q.d.ad, x.kids.length, q.d.e, x.kids⟩) [6, 4, 2] ?_
  rintro x hp' ⟨rfl, rfl⟩
  refine ⟨rfl, ?_⟩
  cbv
  repeat ((first | refine VC.mk rf ?_ | refine ADD.mk rf ?_); cbv)
  intro b6
  cbv
  rw [hwr, toI_toNat]
  refine cP hΓ (hrv b6) [2, 7] ?_
  rintro x hp' ⟨va, vad, ve, rfl, rfl⟩
  refine ⟨rfl, ?_⟩
  cbv
  refine Cl.by (v' := .int .i64 fun _ => 0) (hp' := [.res fun _ => SpaceR b db σ', .box bx 90 [.int .u8 fun _ => toI x.tag, .sl 5 (fun _ => ka) (fun _ => 0) (fun _ => x'.keys.length) (fun _ => ke), .sl 4 (fun _ => q.v.a) (fun _ => 0) (fun _ => x.vals.length) (fun _ => q.v.e), .sl 6 (fun _ => va) (fun _ => 0) (fun _ => x'.kids.length) (fun _ => ve)] true,
   .gone q.d.ad 1, .gone q.k.ad 1, .arr q.v.ad (fun _ => x.vals.length) (fun _ => q.v.e) [.nat .u64 fun _ => x.vals] true, .arr kad (fun _ => x'.keys.length) (fun _ => ke) [.nat .u64 fun _ => x'.keys] true, .arr vad (fun _ => x'.kids.length) (fun _ => ve) [.nat .u32 fun _ => x'.kids] true])
   [.one 0, .one 1, .one 2, .one 3, .one 4, .one 6, .one 8] 5 hb rfl rfl (nodup_of rfl) rfl ?_ rfl ?_ ⟨ka, kad, va, vad, ke, ve, σ', rfl, hI', hst', rfl⟩
  ·cbv
   exact rf
  ·cbv
   exact rf
end Go.Proofs.YtfoffehokhkohaaGreat
set_option maxRecDepth 20000
namespace Go.Proofs.YtfoffehokhkohaaGreat
open Go
variable [VPg]
def wiL (bx tg : Nat) (q : NQ) (x : Nd) (K P : List Nat) (m : Nat) (ka kad pa pad : Option Addr) (ke pe : Nat) : List Ch :=
 [.box bx 90 [.int .u8 fun _ => toI tg, .sl 2 (fun _ => q.k.a) (fun _ => 0) (fun _ => x.keys.length) (fun _ => q.k.e), .sl 3 (fun _ => q.v.a) (fun _ => 0) (fun _ => x.vals.length) (fun _ => q.v.e), .sl 1 (fun _ => q.d.a) (fun _ => 0) (fun _ => x.kids.length) (fun _ => q.d.e)] true,
  .arr q.d.ad (fun _ => x.kids.length) (fun _ => q.d.e) [.nat .u32 fun _ => x.kids] false, .arr q.k.ad (fun _ => x.keys.length) (fun _ => q.k.e) [.nat .u64 fun _ => x.keys] false, .arr q.v.ad (fun _ => x.vals.length) (fun _ => q.v.e) [.nat .u64 fun _ => x.vals] false,
  .arr kad (fun _ => m) (fun _ => ke) [.nat .u64 fun _ => K] false, .arr pad (fun _ => m) (fun _ => pe) [.nat .u32 fun _ => P] false]
def WithR (bx tg : Nat) (q : NQ) (x x' : Nd) (K P : List Nat) (m : Nat) (kad pad : Option Addr) (ke pe : Nat) : KV := fun y hp => ∃ (a1 ad1 a2 ad2 : Option Addr) (e1 e2 : Nat), y = .tup [] ∧
 hp = [.box bx 90 [.int .u8 fun _ => toI tg, .sl 6 (fun _ => a1) (fun _ => 0) (fun _ => x'.keys.length) (fun _ => e1), .sl 3 (fun _ => q.v.a) (fun _ => 0) (fun _ => x.vals.length) (fun _ => q.v.e), .sl 7 (fun _ => a2) (fun _ => 0) (fun _ => x'.kids.length) (fun _ => e2)] true,
  .arr q.d.ad (fun _ => x.kids.length) (fun _ => q.d.e) [.nat .u32 fun _ => x.kids] false, .arr q.k.ad (fun _ => x.keys.length) (fun _ => q.k.e) [.nat .u64 fun _ => x.keys] false, .arr q.v.ad (fun _ => x.vals.length) (fun _ => q.v.e) [.nat .u64 fun _ => x.vals] false,
  .arr kad (fun _ => m) (fun _ => ke) [.nat .u64 fun _ => K] false, .arr pad (fun _ => m) (fun _ => pe) [.nat .u32 fun _ => P] false,
  .arr ad1 (fun _ => x'.keys.length) (fun _ => e1) [.nat .u64 fun _ => x'.keys] true, .arr ad2 (fun _ => x'.kids.length) (fun _ => e2) [.nat .u32 fun _ => x'.kids] true]
set_option maxHeartbeats 1000000 in
theorem with_ok (bx tg i m : Nat) (q : NQ) (x x' : Nd) (K P : List Nat) (ka kad pa pad : Option Addr) (ke pe : Nat) (hK : K.length = m) (hP : P.length = m) (hkd : x.kids.length = x.keys.length) (hlen : x.keys.length ≤ 1000) (hm : m ≤ 1000) (hi : i < x.keys.length) (hi2 : i + 1 = x.keys.length ∨ i + m ≤ x.keys.length)
  (h1 : x'.keys = x.keys.take i ++ K ++ x.keys.drop (i + 1)) (h2 : x'.kids = x.kids.take i ++ P ++ x.kids.drop (i + 1)) :
  FnSpec Tryz.prog 98 (wiL bx tg q x K P m ka kad pa pad ke pe) [.bp 0 0, .int .i64 fun _ => toI i, .sl 4 (fun _ => ka) (fun _ => 0) (fun _ => m) (fun _ => ke), .sl 5 (fun _ => pa) (fun _ => 0) (fun _ => m) (fun _ => pe)] (WithR bx tg q x x' K P m kad pad ke pe) := by
 have hc1 := clone_u64 q.k.ad q.k.a x.keys.length q.k.e 0 x.keys.length q.k.e x.keys rfl (by omega) (by omega)
 rw [subl_all _ _ rfl] at hc1
 have hc2 := clone_u32 q.d.ad q.d.a x.kids.length q.d.e 0 x.kids.length q.d.e x.kids rfl (by omega) (by omega)
 rw [subl_all _ _ rfl] at hc2
 have hr1 := fun (a ad : Option Addr) (e : Nat) => replace_u64 ad kad a ka x.keys.length e i m ke ke x.keys K rfl hK (by omega) (by omega) hi hi2
 have hr2 := fun (a ad : Option Addr) (e : Nat) => replace_u32 ad pad a pa x.kids.length e i m pe pe x.kids P rfl hP (by omega) (by omega) (by omega) (by omega)
 have l1 : x.keys.length - 1 + m = x'.keys.length := by
  rw [h1, List.length_append, List.length_append, List.length_take, List.length_drop, hK]; omega
 have l2 : x.kids.length - 1 + m = x'.kids.length := by
  rw [h2, List.length_append, List.length_append, List.length_take, List.length_drop, hP]; omega
 rw [← h1, l1] at hr1
 rw [← h2, l2] at hr2
 refine spec_cl mixed F98 rfl rfl rfl (fun Γ hΓ hb => ?_)
 cbv
 refine cP hΓ (hc1) [2] ?_
 rintro x hp' ⟨a1, ad1, e1, rfl, rfl⟩
 refine ⟨rfl, ?_⟩
 cbv
 repeat ((first | refine VC.mk rf ?_ | refine ADD.mk rf ?_); cbv)
 refine cP hΓ (hr1 a1 ad1 e1) [6, 4] ?_
 rintro x hp' ⟨a2, ad2, e2, rfl, rfl⟩
 refine ⟨rfl, ?_⟩
 cbv
 refine cP hΓ (hc2) [1] ?_
 rintro x hp' ⟨a3, ad3, e3, rfl, rfl⟩
 refine ⟨rfl, ?_⟩
 cbv
 repeat ((first | refine VC.mk rf ?_ | refine ADD.mk rf ?_); cbv)
 refine cP hΓ (hr2 a3 ad3 e3) [8, 5] ?_
 rintro x hp' ⟨a4, ad4, e4, rfl, rfl⟩
 refine ⟨rfl, ?_⟩
 cbv
 refine Cl.by (v' := .tup []) (hp' := [.box bx 90 [.int .u8 fun _ => toI tg, .sl 6 (fun _ => a2) (fun _ => 0) (fun _ => x'.keys.length) (fun _ => e2), .sl 3 (fun _ => q.v.a) (fun _ => 0) (fun _ => x.vals.length) (fun _ => q.v.e), .sl 7 (fun _ => a4) (fun _ => 0) (fun _ => x'.kids.length) (fun _ => e4)] true,
  .arr q.d.ad (fun _ => x.kids.length) (fun _ => q.d.e) [.nat .u32 fun _ => x.kids] false, .arr q.k.ad (fun _ => x.keys.length) (fun _ => q.k.e) [.nat .u64 fun _ => x.keys] false, .arr q.v.ad (fun _ => x.vals.length) (fun _ => q.v.e) [.nat .u64 fun _ => x.vals] false,
  .arr kad (fun _ => m) (fun _ => ke) [.nat .u64 fun _ => K] false, .arr pad (fun _ => m) (fun _ => pe) [.nat .u32 fun _ => P] false,
  .arr ad2 (fun _ => x'.keys.length) (fun _ => e2) [.nat .u64 fun _ => x'.keys] true, .arr ad4 (fun _ => x'.kids.length) (fun _ => e4) [.nat .u32 fun _ => x'.kids] true]) [.one 0, .one 1, .one 2, .one 3, .one 4, .one 5, .one 7, .one 9] 6 hb rfl rfl (nodup_of rfl) rfl ?_ rfl ?_ ⟨a2, ad2, a4, ad4, e2, e4, rfl, rfl⟩
 ·cbv
  (repeat' first | with_reducible rfl | exact (show Ch.base _ = _ from rfl) | ((try simp only [toI, inI, List.length_nil] at *); omega) | exact trivial | refine ⟨?_, ?_⟩ | refine ⟨?_⟩ | intro _)
 ·cbv
  (repeat' first | with_reducible rfl | exact (show Ch.base _ = _ from rfl) | ((try simp only [toI, inI, List.length_nil] at *); omega) | exact trivial | refine ⟨?_, ?_⟩ | refine ⟨?_⟩ | intro _)
end Go.Proofs.YtfoffehokhkohaaGreat
namespace Go.Proofs.YtfoffehokhkohaaGreat
open Go
variable [VPg]
theorem filter_all {α : Type} {p : α → Bool} {l : List α} (h : ∀ a ∈ l, p a = true) : l.filter p = l := List.filter_eq_self.2 h
theorem filter_none {α : Type} {p : α → Bool} {l : List α} (h : ∀ a ∈ l, p a = false) : l.filter p = [] := List.filter_eq_nil_iff.2 fun a ha => by rw [h a ha]; simp
theorem eput_mid {a m c : Ent} {k v : Nat} (h1 : ∀ e ∈ a, e.1 < k) (h2 : ∀ e ∈ c, k < e.1) : eput (a ++ (m ++ c)) k v = a ++ (eput m k v ++ c) := by
 unfold eput
 rw [List.filter_append, List.filter_append, List.filter_append, List.filter_append, filter_all (p := fun e => decide (e.1 < k)) (l := a) (fun e he => by simpa using h1 e he), filter_none (p := fun e => decide (e.1 < k)) (l := c) (fun e he => by have := h2 e he; simp; omega),
  filter_none (p := fun e => decide (k < e.1)) (l := a) (fun e he => by have := h1 e he; simp; omega), filter_all (p := fun e => decide (k < e.1)) (l := c) (fun e he => by simpa using h2 e he)]
 simp
theorem ecut_mid {a m c : Ent} {k : Nat} (h1 : ∀ e ∈ a, e.1 < k) (h2 : ∀ e ∈ c, k < e.1) : ecut (a ++ (m ++ c)) k = a ++ (ecut m k ++ c) := by
 unfold ecut
 rw [List.filter_append, List.filter_append, List.filter_append, List.filter_append, filter_all (p := fun e => decide (e.1 < k)) (l := a) (fun e he => by simpa using h1 e he), filter_none (p := fun e => decide (e.1 < k)) (l := c) (fun e he => by have := h2 e he; simp; omega),
  filter_none (p := fun e => decide (k < e.1)) (l := a) (fun e he => by have := h1 e he; simp; omega), filter_all (p := fun e => decide (k < e.1)) (l := c) (fun e he => by simpa using h2 e he)]
 simp
theorem eput_mem {l : Ent} {k v : Nat} {e : Nat × Nat} (h : e ∈ eput l k v) : e = (k, v) ∨ e ∈ l := by
 unfold eput at h
 rcases List.mem_append.1 h with h | h
 ·exact .inr (List.mem_filter.1 h).1
 ·rcases List.mem_cons.1 h with h | h
  ·exact .inl h
  ·exact .inr (List.mem_filter.1 h).1
theorem EntOk.put {l : Ent} (h : EntOk l) {k v : Nat} (hk : k < 18446744073709551616) (hv : v < 18446744073709551616) : EntOk (eput l k v) := by
 have hp := h.pw
 refine ⟨List.pairwise_map.2 ?_, fun e he => ?_⟩
 ·unfold eput
  refine List.pairwise_append.2 ⟨hp.filter _, List.pairwise_cons.2 ⟨fun e he => ?_, hp.filter _⟩, fun e he e' he' => ?_⟩
  ·simpa using (List.mem_filter.1 he).2
  ·have h1 : e.1 < k := by simpa using (List.mem_filter.1 he).2
   rcases List.mem_cons.1 he' with rfl | he'
   ·exact h1
   ·have h2 : k < e'.1 := by simpa using (List.mem_filter.1 he').2
    omega
 ·unfold eput at he
  rcases List.mem_append.1 he with he | he
  ·exact h.lt e (List.mem_filter.1 he).1
  ·rcases List.mem_cons.1 he with rfl | he
   ·exact ⟨hk, hv⟩
   ·exact h.lt e (List.mem_filter.1 he).1
theorem eput_len (l : Ent) (k v : Nat) : (eput l k v).length ≤ l.length + 1 := by
 unfold eput
 have : ∀ l : Ent, (l.filter fun e => decide (e.1 < k)).length + (l.filter fun e => decide (k < e.1)).length ≤ l.length := fun l => by
  induction l with
  | nil => simp
  | cons e l ih =>
   rw [List.filter_cons, List.filter_cons, List.length_cons]
   by_cases h1 : e.1 < k
   ·rw [if_pos (by simpa using h1), if_neg (by simp; omega), List.length_cons]; omega
   ·rw [if_neg (by simpa using h1)]
    split <;> (try rw [List.length_cons]) <;> omega
 rw [List.length_append, List.length_cons]
 have := this l
 omega
def swapL {α : Type} (l : List α) (c : Nat) (m : List α) : List α := l.take c ++ m ++ l.drop (c + 1)
theorem swap_map {α β : Type} (f : α → β) (l : List α) (c : Nat) (m : List α) : (swapL l c m).map f = swapL (l.map f) c (m.map f) := by
 unfold swapL; rw [List.map_append, List.map_append, List.map_take, List.map_drop]
theorem swap_len {α : Type} (l : List α) (c : Nat) (m : List α) (hc : c < l.length) : (swapL l c m).length = l.length - 1 + m.length := by
 unfold swapL; rw [List.length_append, List.length_append, List.length_take, List.length_drop]; omega
theorem take_mid {α : Type} (l : List α) (c : Nat) (hc : c < l.length) : l = l.take c ++ (l[c] :: l.drop (c + 1)) := by rw [List.getElem_cons_drop, List.take_append_drop]
theorem NR.swap {pg pg' : PG} {r : Bool} {h : Nat} {x : Nd} {ls : List Ent} {c : Nat} {Q : List (Nat × Ent)} (H : NR pg r (h + 1) x ls) (hc : c < ls.length) (hk : Keep pg pg' (x.kids.take c ++ x.kids.drop (c + 1))) (hQ : ∀ q ∈ Q, Rep pg' r h q.1 q.2) :
  NR pg' r (h + 1) ⟨3, swapL x.keys c (Q.map fun q => hd q.2), [], swapL x.kids c (Q.map fun q => q.1)⟩ (swapL ls c (Q.map fun q => q.2)) := by
 obtain ⟨ks, rfl, h2, h3⟩ := H
 refine ⟨swapL ks c (Q.map fun q => q.1), ?_, ?_, fun p hp => ?_⟩
 ·rw [swap_map, List.map_map]; rfl
 ·rw [swap_len _ _ _ (by omega), swap_len _ _ _ hc, List.length_map, List.length_map, h2]
 ·have hk2 : Keep pg pg' (ks.take c ++ ks.drop (c + 1)) := hk
  unfold swapL at hp
  rw [List.zip_append (by rw [List.length_append, List.length_append, List.length_take, List.length_take, List.length_map, List.length_map, h2]), List.zip_append (by rw [List.length_take, List.length_take, h2])] at hp
  rcases List.mem_append.1 hp with hp | hp
  ·rcases List.mem_append.1 hp with hp | hp
   ·rw [← zip_take] at hp
    refine (h3 p (List.mem_of_mem_take hp)).keep (hk2.mono fun m hm => ?_)
    rw [List.mem_singleton] at hm
    subst hm
    rw [zip_take] at hp
    exact List.mem_append_left _ (List.of_mem_zip hp).1
   ·rw [zip_maps] at hp
    obtain ⟨q, hq, rfl⟩ := List.mem_map.1 hp
    exact hQ q hq
  ·rw [← zip_drop] at hp
   refine (h3 p (List.mem_of_mem_drop hp)).keep (hk2.mono fun m hm => ?_)
   rw [List.mem_singleton] at hm
   subst hm
   rw [zip_drop] at hp
   exact List.mem_append_right _ (List.of_mem_zip hp).1
theorem swap_flatten (ls : List Ent) (c : Nat) (m : List Ent) : (swapL ls c m).flatten = (ls.take c).flatten ++ (m.flatten ++ (ls.drop (c + 1)).flatten) := by
 unfold swapL; rw [List.flatten_append, List.flatten_append, List.append_assoc]
theorem flat_mid (ls : List Ent) (c : Nat) (hc : c < ls.length) : ls.flatten = (ls.take c).flatten ++ (ls[c] ++ (ls.drop (c + 1)).flatten) := by
 conv => lhs; rw [take_mid ls c hc]
 rw [List.flatten_append, List.flatten_cons]
def refV (r : Bool) (v : Nat) : List Nat := if r = true then [v] else []
structure Ins (σ : Sp) (pg : PG) (E : List Nat) (r : Bool) (h : Nat) (l' : Ent) (c : Nat) (σ' : Sp) (pg' : PG) (x' : Nd) (ls' : List Ent) : Prop where
 nr : NR pg' r h x' ls'
 fl : ls'.flatten = l'
 inv : Inv σ' pg' (x'.kids ++ E)
 keep : Keep pg pg' E
 step : Step c σ σ'
 least : least h ≤ ls'.length
 fit : ls'.length ≤ mostE σ x'.tag + 1
theorem Ins.up {σ σ1 σ2 σ3 : Sp} {pg pg2 pg3 : PG} {E : List Nat} {r : Bool} {h k c : Nat} {x y : Nd} {ls lsy : List Ent} {l' m' : Ent} {Q : List (Nat × Ent)} (hx : NR pg r (h + 1) x ls) (hc : c < ls.length) (hfit : ls.length ≤ mostE σ x.tag) (h2 : 2 ≤ ls.length) (hs1 : Step 0 σ σ1)
  (hy : Ins σ1 pg (x.kids.take c ++ (x.kids.drop (c + 1) ++ E)) r h m' k σ2 pg2 y lsy) (hS : Shut σ2 pg2 (x.kids.take c ++ (x.kids.drop (c + 1) ++ E)) r h y lsy lsy.length σ3 pg3 Q) (hQ : Q.length ≤ 2) (hQ1 : 1 ≤ Q.length) (hyk : y.kids.length ≤ lsy.length)
  (hl : l' = (ls.take c).flatten ++ (m' ++ (ls.drop (c + 1)).flatten)) :
  Ins σ pg E r (h + 1) l' (k + 2) σ3 pg3 ⟨3, swapL x.keys c (Q.map fun q => hd q.2), [], swapL x.kids c (Q.map fun q => q.1)⟩ (swapL ls c (Q.map fun q => q.2)) := by
 obtain ⟨u1, u2, u3⟩ := hS.up hyk
 have hkp : Keep pg pg3 (x.kids.take c ++ (x.kids.drop (c + 1) ++ E)) := hy.keep.trans (hS.keep.mono fun m hm => List.mem_append_right _ hm)
 have hlen : (swapL ls c (Q.map fun q => q.2)).length = ls.length - 1 + Q.length := by rw [swap_len _ _ _ hc, List.length_map]
 refine ⟨hx.swap hc (hkp.mono fun m hm => ?_) hS.rep, ?_, ?_, hkp.mono fun m hm => List.mem_append_right _ (List.mem_append_right _ hm), ?_, ?_, ?_⟩
 ·rcases List.mem_append.1 hm with hm | hm
  ·exact List.mem_append_left _ hm
  ·exact List.mem_append_right _ (List.mem_append_left _ hm)
 ·rw [swap_flatten, u3, hy.fl, hl]
 ·refine u2.perm ?_
  show List.Perm _ (swapL x.kids c (Q.map fun q => q.1) ++ E)
  unfold swapL
  rw [List.append_assoc, List.append_assoc]
  exact List.perm_append_comm_assoc _ _ _
 ·have := (hs1.trans hy.step).trans hS.step
  exact this.le (by omega)
 ·rw [hlen]; unfold Go.Proofs.YtfoffehokhkohaaGreat.least; rw [if_neg (by omega)]; omega
 ·rw [hlen]
  have : mostE σ x.tag = mostE σ 3 := by rw [hx.tag, if_neg (by omega)]
  show _ ≤ mostE σ 3 + 1
  omega
end Go.Proofs.YtfoffehokhkohaaGreat
set_option maxRecDepth 20000
namespace Go.Proofs.YtfoffehokhkohaaGreat
open Go
variable [VPg]
def InsR (b db : Nat) (σ : Sp) (pg : PG) (E : List Nat) (r : Bool) (h : Nat) (l' : Ent) (c : Nat) : KV := fun y hp => ∃ (q : NQ) (x' : Nd) (ls' : List Ent) (σ' : Sp) (pg' : PG), y = .tup [ndV 2 3 1 q x', .int .i64 fun _ => 0] ∧ hp = appL [.res fun _ => SpaceR b db σ'] (ndL q x' true) ∧ Ins σ pg E r h l' c σ' pg' x' ls'
theorem most_hi {σ : Sp} (h : SpOk σ) (tag : Nat) : mostE σ tag ≤ 500 := by
 have h1 := h.geo.h1
 have h2 := h.geo.h2
 have hR : spRoom σ 0 = σ.size - 18 := by unfold spRoom; rw [if_neg (by omega)]; omega
 unfold mostE; rw [hR]; split <;> omega
theorem ng_gk {q : NQ} {x : Nd} : NG x.tag (gk q x) (gv q x) (gd q x) x := ⟨⟨Nat.le_of_eq (Nat.zero_add _), rfl⟩, ⟨Nat.le_of_eq (Nat.zero_add _), rfl⟩, ⟨Nat.le_of_eq (Nat.zero_add _), rfl⟩, by
 unfold gNd gk gv gd
 rw [subl_all _ _ rfl, subl_all _ _ rfl, subl_all _ _ rfl]⟩
theorem mostE_step {σ σ' : Sp} {c : Nat} (h : Step c σ σ') (tag : Nat) : mostE σ' tag = mostE σ tag := by unfold mostE spRoom; rw [h.size]
theorem Ins.le {σ σ' : Sp} {pg pg' : PG} {E : List Nat} {r : Bool} {h c c' : Nat} {l' : Ent} {x' : Nd} {ls' : List Ent} (H : Ins σ pg E r h l' c σ' pg' x' ls') (hc : c ≤ c') : Ins σ pg E r h l' c' σ' pg' x' ls' := ⟨H.nr, H.fl, H.inv, H.keep, H.step.le hc, H.least, H.fit⟩
set_option maxHeartbeats 2000000 in
theorem tree_insert (b db key val : Nat) (r : Bool) (hkey : key < 18446744073709551616) (hval : val < 18446744073709551616) (hv2 : r = true → val < 4294967296) : ∀ (h n : Nat) (σ : Sp) (pg : PG) (E : List Nat) (l : Ent), Inv σ pg (n :: (refV r val ++ E)) → (r = true → pg val = VPg.vp) → Rep pg r h n l → EntOk l → E.length + 600 * h ≤ 30000 → Room σ (2 * h + 3) →
  FnSpec Tryz.prog 44 [.res fun _ => SpaceR b db σ] [.pt fun _ => ⟨b, 0, none⟩, .int .u32 fun _ => toI n, .int .u64 fun _ => toI key, .int .u64 fun _ => toI val] (InsR b db σ pg E r h (eput l key val) (2 * h)) := by
 intro h
 induction h with
 | zero =>
  intro n σ pg E l hI hpv hR he hE hRm
  have hop := tree_open b db n 0 r σ pg (refV r val ++ E) l hI hR he (by unfold refV; rw [List.length_append]; split <;> simp <;> omega)
  have hel := eput_len l key val
  obtain ⟨l', hl'⟩ : ∃ l', l' = eput l key val := ⟨_, rfl⟩
  rw [← hl'] at hel ⊢
  generalize 2 * 0 = c0
  have hnel : 1 ≤ l'.length := by rw [hl']; unfold eput; rw [List.length_append, List.length_cons]; omega
  refine spec_cl mixed F44 rfl rfl rfl (fun Γ hΓ hb => ?_)
  cbv
  intro b1
  cbv
  refine cP hΓ (hop) [0] ?_
  rintro x hp' ⟨q, x, ls, σ1, rfl, rfl, g1, g2, g3, g4, g5, g6, g7, g8⟩
  refine ⟨rfl, ?_⟩
  cbv
  intro b2
  cbv
  refine .no (neF rfl) ?_
  cbv
  obtain ⟨l1, hls, hxl, hvk⟩ := g1
  have hll : l = l1 := by rw [g2, hls, flatten_single]
  subst hll
  have hlsl : ls.length = l.length := by rw [hls, List.length_map]
  cases r with
  | false =>
   have htag : x.tag = 4 := by rw [hxl]; rfl
   have hup := upsert_leaf b db b2 key val σ1 q x l hxl he (by omega) hkey hval
   refine cP hΓ (inner_no x.tag (by omega) (gk q x) (gv q x) (gd q x)) [3, 4, 2] ?_
   rintro x hp' ⟨rfl, rfl⟩
   refine ⟨rfl, ?_⟩
   cbv
   rw [← hl'] at hup
   obtain ⟨x', hx'⟩ : ∃ x', x' = leafNd false l' := ⟨_, rfl⟩
   rw [← hx'] at hup
   have ht' : x'.tag = 4 := by rw [hx']; rfl
   have hk0 : x.kids = [] := by rw [hxl]; rfl
   have hk1 : x'.kids = [] := by rw [hx']; rfl
   refine cP hΓ (hup) [0, 5, 2, 3, 4] ?_
   rintro x hp' ⟨ka, kad, va, vad, ke, ve, rfl, rfl⟩
   refine ⟨rfl, ?_⟩
   cbv
   have hkk : x.kids = x'.kids := by rw [hk0, hk1]
   have hkl : x.kids.length = x'.kids.length := by rw [hkk]
   refine Cl.by (v' := .tup [ndV 2 3 1 ⟨⟨ka, kad, ke⟩, ⟨va, vad, ve⟩, q.d⟩ x', .int .i64 fun _ => 0]) (hp' := appL [.res fun _ => SpaceR b db σ1] (ndL ⟨⟨ka, kad, ke⟩, ⟨va, vad, ve⟩, q.d⟩ x' true)) [.one 0, .one 2, .one 6, .one 7] 1 hb rfl rfl (nodup_of rfl) rfl ?_ rfl ?_
    ⟨⟨⟨ka, kad, ke⟩, ⟨va, vad, ve⟩, q.d⟩, x', l'.map fun e => [e], σ1, pg, rfl, rfl, ⟨l', rfl, hx', by rw [hk1]; simp⟩, flatten_single _, ?_, Keep.refl _ _, g8.le (Nat.zero_le _), by rw [List.length_map]; exact hnel, by rw [List.length_map, ht', ← htag]; omega⟩
   ·cbv
    exact rf
   ·cbv
    exact rf
   ·rw [hk1]
    rw [hk0] at g7
    exact g7
  | true =>
   have htag : x.tag = 5 := by rw [hxl]; rfl
   have hup := upsert_refs b db b2 key val σ1 pg E q x l hxl he (by omega) hkey (hv2 rfl) g7 (by omega)
   refine cP hΓ (inner_no x.tag (by omega) (gk q x) (gv q x) (gd q x)) [3, 4, 2] ?_
   rintro x hp' ⟨rfl, rfl⟩
   refine ⟨rfl, ?_⟩
   cbv
   rw [← hl'] at hup
   obtain ⟨x', hx'⟩ : ∃ x', x' = leafNd true l' := ⟨_, rfl⟩
   rw [← hx'] at hup
   have ht' : x'.tag = 5 := by rw [hx']; rfl
   have hvk' : ∀ k ∈ x'.kids, pg k = VPg.vp := by
    rw [hx', hl']
    intro k hk
    obtain ⟨e, he1, rfl⟩ := List.mem_map.1 (show k ∈ (eput l key val).map (·.2) from hk)
    rcases eput_mem he1 with rfl | he1
    ·exact hpv rfl
    ·exact hvk _ (by rw [hxl]; exact List.mem_map_of_mem (f := (·.2)) he1)
   have hk0 : x.vals = [] := by rw [hxl]; rfl
   have hk1 : x'.vals = [] := by rw [hx']; rfl
   refine cP hΓ (hup) [0, 5, 2, 3, 4] ?_
   rintro x hp' ⟨ka, kad, va, vad, ke, ve, σ2, rfl, j1, j2, rfl⟩
   refine ⟨rfl, ?_⟩
   cbv
   have hkk : x.vals = x'.vals := by rw [hk0, hk1]
   have hkl : x.vals.length = x'.vals.length := by rw [hkk]
   refine Cl.by (v' := .tup [ndV 2 3 1 ⟨⟨ka, kad, ke⟩, q.v, ⟨va, vad, ve⟩⟩ x', .int .i64 fun _ => 0]) (hp' := appL [.res fun _ => SpaceR b db σ2] (ndL ⟨⟨ka, kad, ke⟩, q.v, ⟨va, vad, ve⟩⟩ x' true)) [.one 0, .one 7, .one 6, .one 4] 1 hb rfl rfl (nodup_of rfl) rfl ?_ rfl ?_
    ⟨⟨⟨ka, kad, ke⟩, q.v, ⟨va, vad, ve⟩⟩, x', l'.map fun e => [e], σ2, pg, rfl, rfl, ⟨l', rfl, hx', hvk'⟩, flatten_single _, j1, Keep.refl _ _, (g8.trans j2).le (Nat.zero_le _), by rw [List.length_map]; exact hnel, by rw [List.length_map, ht', ← htag]; omega⟩
   ·cbv
    exact rf
   ·cbv
    exact rf
 | succ h ih =>
  intro n σ pg E l hI hpv hR he hE hRm
  have hVl : (refV r val).length ≤ 1 := by unfold refV; split <;> simp
  have hop := tree_open b db n (h + 1) r σ pg (refV r val ++ E) l hI hR he (by rw [List.length_append]; omega)
  obtain ⟨l', hl'⟩ : ∃ l', l' = eput l key val := ⟨_, rfl⟩
  obtain ⟨c0, hc0⟩ : ∃ c0, c0 = 2 * (h + 1) := ⟨_, rfl⟩
  rw [← hl', ← hc0]
  refine spec_cl mixed F44 rfl rfl rfl (fun Γ hΓ hb => ?_)
  cbv
  intro b1
  cbv
  refine cP hΓ (hop) [0] ?_
  rintro x hp' ⟨q, x, ls, σ1, rfl, rfl, g1, g2, g3, g4, g5, g6, g7, g8⟩
  refine ⟨rfl, ?_⟩
  cbv
  intro b2
  cbv
  refine .no (neF rfl) ?_
  cbv
  subst g2
  have hx3 : x.tag = 3 := by rw [g1.tag, if_neg (by omega)]
  have hkl : x.keys.length = ls.length := by rw [g1.keys, List.length_map]
  have hkk : x.kids.length = ls.length := by rw [g1.kids, if_neg (by omega)]
  have h2l : 2 ≤ ls.length := by unfold least at g3; rw [if_neg (by omega)] at g3; exact g3
  obtain ⟨c1, c2, c3⟩ := child_split he g1.ne (by omega) key
  have hch := child_ok 3 key x.keys.length q.k.e q.k.e q.k.a q.k.ad hkey (gv q x) (gd q x) x.keys rfl (by omega) g5.srt g5.lt
  rw [← g1.keys] at c1 c2 c3
  revert hch c1 c2 c3
  generalize cix x.keys key = c
  intro c1 c2 c3 hch
  obtain ⟨_, kn, hkn, hkm, hkr⟩ := g1.inner c1
  have hkn2 : x.kids = x.kids.take c ++ (kn :: x.kids.drop (c + 1)) := by
   have e := take_mid x.kids c (by omega)
   rw [List.getD_eq_getElem?_getD, List.getElem?_eq_getElem (by omega)] at hkn
   have : x.kids[c]'(by omega) = kn := hkn
   rw [this] at e
   exact e
  have hIk : Inv σ1 pg (kn :: (refV r val ++ (x.kids.take c ++ (x.kids.drop (c + 1) ++ E)))) := by
   refine g7.perm ?_
   conv => lhs; rw [hkn2]
   rw [List.append_assoc, List.cons_append]
   refine List.perm_middle.trans (List.Perm.cons _ ?_)
   refine (List.Perm.append_left _ (List.perm_append_comm_assoc _ _ _)).trans ?_
   exact List.perm_append_comm_assoc _ _ _
  have hin := ih kn σ1 pg (x.kids.take c ++ (x.kids.drop (c + 1) ++ E)) ls[c] hIk hpv hkr (he.at (List.getElem_mem _)) (by rw [List.length_append, List.length_append, List.length_take, List.length_drop]; omega) ((hRm.le (by omega) : Room σ (0 + (2 * h + 3))).step g8)
  obtain ⟨m', hm'⟩ : ∃ m', m' = eput ls[c] key val := ⟨_, rfl⟩
  rw [← hm'] at hin
  obtain ⟨ch, hch2⟩ : ∃ ch, ch = 2 * h := ⟨_, rfl⟩
  rw [← hch2] at hin
  have hll : l' = (ls.take c).flatten ++ (m' ++ (ls.drop (c + 1)).flatten) := by
   rw [hl', flat_mid ls c c1, eput_mid c2 c3, hm']
  rw [hx3]
  refine cP hΓ (inner_yes (gk q x) (gv q x) (gd q x)) [3, 4, 2] ?_
  rintro x hp' ⟨rfl, rfl⟩
  refine ⟨rfl, ?_⟩
  cbv
  refine cP hΓ (hch) [3, 4, 2] ?_
  rintro x hp' ⟨rfl, rfl⟩
  refine ⟨rfl, ?_⟩
  cbv
  repeat ((first | refine VC.mk rf ?_ | refine ADD.mk rf ?_); cbv)
  rw [show x.kids.getD (0 + (toI c).toNat) 0 = kn by rw [toI_toNat, Nat.zero_add]; exact hkn]
  refine cP hΓ (hin) [0] ?_
  rintro x hp' ⟨qy, y, lsy, σ2, pg2, rfl, rfl, hy⟩
  refine ⟨rfl, ?_⟩
  cbv
  intro b3
  cbv
  refine .no (neF rfl) ?_
  cbv
  have hyk : y.kids.length ≤ lsy.length := by rw [hy.nr.kids]; split <;> omega
  have hyl : 1 ≤ lsy.length := by have := hy.least; unfold least at this; split at this <;> omega
  have hyf : lsy.length ≤ mostE σ2 y.tag + 1 := by rw [mostE_step hy.step]; exact hy.fit
  have hm6 := most6 hy.inv.ok y.tag
  obtain ⟨n2, hn2⟩ : ∃ n2, cutN lsy.length (mostE σ2 y.tag) = n2 := ⟨_, rfl⟩
  obtain ⟨d1, d2, d3, d4⟩ := cutN_ok (m := lsy.length) (fit := mostE σ2 y.tag) hyl (by omega)
  rw [hn2] at d1 d2 d3 d4
  have hn22 : n2 ≤ 2 := by
   rcases Nat.lt_or_ge 2 n2 with h | h
   ·have : 2 * mostE σ2 y.tag ≤ (n2 - 1) * mostE σ2 y.tag := Nat.mul_le_mul_right _ (by omega)
    omega
   ·exact h
  have hRm2 : Room σ2 (n2 + 1) := by
   have h1 : Room σ1 (ch + 5) := Room.step (j := 0) (hRm.le (by omega)) g8
   exact (Room.step (j := ch) (k := 5) h1 hy.step).le (by omega)
  have hsh := shut_any b db y.tag h n2 r σ2 pg2 (x.kids.take c ++ (x.kids.drop (c + 1) ++ E)) (gk qy y) (gv qy y) (gd qy y) y lsy ng_gk hy.nr hy.least (by have := most_hi hy.inv.ok y.tag; omega) hn2 hy.inv hRm2
  refine cP hΓ (hsh) [0, 7, 8, 6] ?_
  rintro x hp' ⟨σ3, pg3, Q, a1, ad1, a2, ad2, e1, e2, rfl, rfl, hS, hQ⟩
  refine ⟨rfl, ?_⟩
  cbv
  have hU := Ins.up g1 c1 g6 h2l g8 hy hS (by omega) (by omega) hyk hll
  have hwi := with_ok b2 3 c n2 q x ⟨3, swapL x.keys c (Q.map fun q => hd q.2), [], swapL x.kids c (Q.map fun q => q.1)⟩ (Q.map fun q => hd q.2) (Q.map fun q => q.1) a1 ad1 a2 ad2 e1 e2 (by rw [List.length_map, hQ]) (by rw [List.length_map, hQ]) (by omega) (by omega) (by omega) (by omega) (by omega) rfl rfl
  obtain ⟨x', hx'⟩ : ∃ x' : Nd, x' = ⟨3, swapL x.keys c (Q.map fun q => hd q.2), [], swapL x.kids c (Q.map fun q => q.1)⟩ := ⟨_, rfl⟩
  rw [← hx'] at hU hwi
  unfold wiL at hwi
  refine cP hΓ (hwi) [5, 2, 3, 4, 10, 11] ?_
  rintro x hp' ⟨b1', bd1, b2', bd2, f1, f2, rfl, rfl⟩
  refine ⟨rfl, ?_⟩
  cbv
  have hv0 : x.vals = [] := List.eq_nil_of_length_eq_zero (by rw [g1.vals, if_neg (by omega)])
  have hv1 : x'.vals = [] := by rw [hx']
  have ht1 : x'.tag = 3 := by rw [hx']
  have hvv : x.vals = x'.vals := by rw [hv0, hv1]
  have hvl : x.vals.length = x'.vals.length := by rw [hvv]
  refine Cl.by (v' := .tup [ndV 2 3 1 ⟨⟨b1', bd1, f1⟩, q.v, ⟨b2', bd2, f2⟩⟩ x', .int .i64 fun _ => 0]) (hp' := appL [.res fun _ => SpaceR b db σ3] (ndL ⟨⟨b1', bd1, f1⟩, q.v, ⟨b2', bd2, f2⟩⟩ x' true)) [.one 0, .one 13, .one 12, .one 4] 1 hb rfl rfl (nodup_of rfl) rfl ?_ rfl ?_
   ⟨⟨⟨b1', bd1, f1⟩, q.v, ⟨b2', bd2, f2⟩⟩, x', _, σ3, pg3, rfl, rfl, hU.le (by omega)⟩
  ·cbv
   exact rf
  ·cbv
   exact rf
end Go.Proofs.YtfoffehokhkohaaGreat
