/- Part 23 of what is proved in the last text (packed by a program of mine). -/
import Derived.Test.YtfoffehokhkohaaGreatK11
import Derived.Test.YtfoffehokhkohaaGreatK12
import Derived.Test.YtfoffehokhkohaaGreatK13
import Derived.Test.YtfoffehokhkohaaGreatK22
set_option linter.all false
set_option maxRecDepth 20000
namespace Go.Proofs.YtfoffehokhkohaaGreat
open Go
variable [VPg]
theorem part_leaf (i j : Nat) (k v d : Gs) (hij : i ≤ j) (h1 : j ≤ k.len) (h2 : j ≤ v.len) (hn : k.len ≤ 1000000) (hn2 : v.len ≤ 1000000) (hk : k.off + k.len ≤ k.N) (hv : v.off + v.len ≤ v.N) :
  FnSpec Tryz.prog 149 (ngL k v d) [ng 4 k v d, .int .i64 fun _ => toI i, .int .i64 fun _ => toI j] (fun x hp => ∃ (a1 a2 : Option Addr) (e1 e2 : Nat), x = .agg [.int .u8 fun _ => toI 4, .sl 0 (fun _ => a1) (fun _ => k.off + i) (fun _ => j - i) (fun _ => e1), .sl 1 (fun _ => a2) (fun _ => v.off + i) (fun _ => j - i) (fun _ => e2), .nils] ∧ hp = ngL k v d) := by
 have hr := refs_no k v d
 refine spec_cl mixed F149 rfl rfl rfl (fun Γ hΓ hb => ?_)
 cbv
 intro b1
 cbv
 intro b2
 cbv
 repeat ((first | refine VC.mk rf ?_ | refine ADD.mk rf ?_ | intro _); cbv)
 refine cP hΓ (hr) [0, 1, 2] ?_
 rintro x hp' ⟨rfl, rfl⟩
 refine ⟨rfl, ?_⟩
 cbv
 repeat ((first | refine VC.mk rf ?_ | refine ADD.mk rf ?_ | intro _); cbv)
 rename_i A1 B3 A2
 refine Cl.by (v' := .agg [.int .u8 fun _ => toI 4, .sl 0 (fun _ => A1) (fun _ => k.off + i) (fun _ => j - i) (fun _ => k.len + k.ext - j), .sl 1 (fun _ => A2) (fun _ => v.off + i) (fun _ => j - i) (fun _ => v.len + v.ext - j), .nils]) (hp' := ngL k v d) [.one 0, .one 1, .one 2] 3 hb rfl rfl (nodup_of rfl) rfl ?_ rfl ?_ ⟨A1, A2, _, _, rfl, rfl⟩
 ·cbv
  exact rf
 ·cbv
  exact rf
theorem part_kids (tag i j : Nat) (ht : tag ≠ 4) (k v d : Gs) (hij : i ≤ j) (h1 : j ≤ k.len) (h2 : j ≤ d.len) (hn : k.len ≤ 1000000) (hn2 : d.len ≤ 1000000) (hk : k.off + k.len ≤ k.N) (hv : d.off + d.len ≤ d.N) :
  FnSpec Tryz.prog 149 (ngL k v d) [ng tag k v d, .int .i64 fun _ => toI i, .int .i64 fun _ => toI j] (fun x hp => ∃ (a1 a2 : Option Addr) (e1 e2 : Nat), x = .agg [.int .u8 fun _ => toI tag, .sl 0 (fun _ => a1) (fun _ => k.off + i) (fun _ => j - i) (fun _ => e1), .nils, .sl 2 (fun _ => a2) (fun _ => d.off + i) (fun _ => j - i) (fun _ => e2)] ∧ hp = ngL k v d) := by
 have hr := refs_yes tag ht k v d
 refine spec_cl mixed F149 rfl rfl rfl (fun Γ hΓ hb => ?_)
 cbv
 intro b1
 cbv
 intro b2
 cbv
 repeat ((first | refine VC.mk rf ?_ | refine ADD.mk rf ?_ | intro _); cbv)
 refine cP hΓ (hr) [0, 1, 2] ?_
 rintro x hp' ⟨rfl, rfl⟩
 refine ⟨rfl, ?_⟩
 cbv
 repeat ((first | refine VC.mk rf ?_ | refine ADD.mk rf ?_ | intro _); cbv)
 rename_i A1 B3 A2
 refine Cl.by (v' := .agg [.int .u8 fun _ => toI tag, .sl 0 (fun _ => A1) (fun _ => k.off + i) (fun _ => j - i) (fun _ => k.len + k.ext - j), .nils, .sl 2 (fun _ => A2) (fun _ => d.off + i) (fun _ => j - i) (fun _ => d.len + d.ext - j)]) (hp' := ngL k v d) [.one 0, .one 1, .one 2] 3 hb rfl rfl (nodup_of rfl) rfl ?_ rfl ?_ ⟨A1, A2, _, _, rfl, rfl⟩
 ·cbv
  exact rf
 ·cbv
  exact rf
def psL (b db : Nat) (σ : Sp) (k v d : Gs) : List Ch := [.res fun _ => SpaceR b db σ, gsL .u64 k, gsL .u64 v, gsL .u32 d]
def gNd (tag : Nat) (k v d : Gs) : Nd := ⟨tag, subl k.l k.off k.len, subl v.l v.off v.len, subl d.l d.off d.len⟩
set_option maxHeartbeats 1000000 in
theorem put_kids (b db tag n : Nat) (σ : Sp) (pg : PG) (E : List Nat) (k v d : Gs) (ht : tag ≠ 4) (hk : k.off + k.len ≤ k.N) (hkl : k.l.length = k.N) (hd : d.off + d.len ≤ d.N) (hdl : d.l.length = d.N) (h1 : k.len = n) (h2 : d.len = n) (h3 : v.len = 0) (hn : n ≤ 100000)
  (hI : Inv σ pg ((gNd tag k v d).kids ++ E)) (hp : PageOk σ.size σ.blocks (gNd tag k v d).page) (hfr : σ.sup.length < free σ) (hg : σ.gen + 1 < 9223372036854775808) (hpl : σ.pend.length < 800000000) :
  FnSpec Tryz.prog 150 (psL b db σ k v d) [.agg [.int .u8 fun _ => toI tag, gsV 1 k, gsV 2 v, gsV 3 d], .pt fun _ => ⟨b, 0, none⟩]
   (fun x hp => ∃ (m : Nat) (σ' : Sp) (pg' : PG), x = .tup [.int .u32 fun _ => toI m, .int .i64 fun _ => 0] ∧ hp = psL b db σ' k v d ∧
    Inv σ' pg' (m :: E) ∧ Step 1 σ σ' ∧ Keep pg pg' ((gNd tag k v d).kids ++ E) ∧ pg' m = (gNd tag k v d).page) := by
 have hr := refs_yes tag ht k v d
 obtain ⟨ks, hks⟩ : ∃ ks, ks = subl k.l k.off k.len := ⟨_, rfl⟩
 have hksl : ks.length = n := by rw [hks, subl_length _ _ _ (by omega), h1]
 have hdata : (gNd tag k v d).page.data = ks.flatMap (leB · 8) := by
  show Nd.data _ = _
  unfold Nd.data gNd
  rw [if_neg ht, ← hks]
 have hkg : ∀ i, i < n → k.l.getD (k.off + i) 0 = ks.getD i 0 := fun i hi => by
  rw [hks]; unfold subl
  rw [List.getD_eq_getElem?_getD, List.getD_eq_getElem?_getD, List.getElem?_take, if_pos (by omega), List.getElem?_drop]
 have htk : ∀ i, i < n → ks.take (i + 1) = ks.take i ++ [ks.getD i 0] := fun i hi => by
  rw [List.take_add_one, List.getElem?_eq_getElem (by omega), List.getD_eq_getElem?_getD, List.getElem?_eq_getElem (by omega)]; rfl
 have hs := spc_Put b db d.N d.sp d.off d.len d.ext d.a d.ad d.l σ (gNd tag k v d).page pg E hI hp hdl hd rfl (subl_length _ _ _ (by omega)).symm hfr hg hpl
 rw [hdata] at hs
 have htag : (gNd tag k v d).page.tag = tag := rfl
 have hkd : (gNd tag k v d).page.kids = (gNd tag k v d).kids := rfl
 rw [htag, hkd] at hs
 revert hs
 generalize (gNd tag k v d).page = P
 generalize (gNd tag k v d).kids = kd
 intro hs
 refine spec_cl mixed F150 rfl rfl rfl (fun Γ hΓ hb => ?_)
 cbv
 intro bx
 cbv
 refine loopJ (α := Nat × Option Addr × Option Addr × Nat) (fun (i, _, _, _) => i ≤ n) (fun (i, a', ad', e') => ⟨42, [(1, .pt fun _ => ⟨b, 0, none⟩), (2, .bp 4 0), (6, .sl 5 (fun _ => a') (fun _ => 0) (fun _ => 8 * i) (fun _ => e')), (10, gsV 1 k), (11, .int .i64 fun _ => toI n), (12, .int .i64 fun _ => toI i)],
  appL (psL b db σ k v d) [.box bx 90 [.int .u8 fun _ => toI tag, gsV 1 k, gsV 2 v, gsV 3 d] true, .arr ad' (fun _ => 8 * i) (fun _ => e') [.b8 fun _ => (ks.take i).flatMap (leB · 8)] true], []⟩)
  (fun (i, _, _, _) => n - i) (0, none, none, 0) (Nat.zero_le _) (Sub.nil [.b8] (sub2 [0, 1, 2, 3, 4, 5] 4 hb rfl rfl rfl rfl rfl rfl rfl rfl ?_)) ?_
 ·cbv
  (repeat' first | with_reducible rfl | exact (show Ch.base _ = _ from rfl) | ((try simp only [toI, inI, List.length_nil] at *); omega) | exact trivial | refine ⟨?_, ?_⟩ | refine ⟨?_⟩ | intro _)
  rfl
 rintro ⟨i, a', ad', e'⟩ hi
 have hi : i ≤ n := hi
 have hti : ((ks.take i).flatMap (leB · 8)).length = 8 * i := by rw [flatMap_leB_length, List.length_take]; omega
 cbv
 refine ⟨fun hc => ?_, fun hc => ?_⟩
 ·replace hc := toI_lt hc
  have hti2 : (ks.take (i + 1)).flatMap (leB · 8) = (ks.take i).flatMap (leB · 8) ++ leB (ks.getD i 0) 8 := by
   rw [htk i hc, List.flatMap_append]; simp
  have hgi := hkg i hc
  revert hti hti2
  generalize (ks.take i).flatMap (leB · 8) = t0
  generalize hT1 : (ks.take (i + 1)).flatMap (leB · 8) = t1
  intro hti hti2
  cbv
  repeat ((first | refine VC.mk rf ?_ | refine ADD.mk rf ?_); cbv)
  rw [toI_toNat, hgi]
  obtain ⟨x, hx⟩ : ∃ x, ks.getD i 0 = x := ⟨_, rfl⟩
  rw [hx] at hti2 ⊢
  refine cP hΓ (octet_Put x 8 t0 a' ad' (8 * i) e' (by omega) (by omega) hti (by omega)) [5] ?_
  rintro x hp' ⟨a3, ad3, e3, rfl, rfl⟩
  refine ⟨rfl, ?_⟩
  cbv
  refine cP hΓ (hr) [1, 2, 3] ?_
  rintro x hp' ⟨rfl, rfl⟩
  refine ⟨rfl, ?_⟩
  cbv
  refine .mk rf ?_
  cbv
  refine ⟨(i + 1, a3, ad3, e3), show i + 1 ≤ n by omega, show n - (i + 1) < n - i by omega, sub2 [0, 1, 2, 3, 4, 6] 4 hb rfl rfl rfl rfl rfl rfl rfl rfl ?_⟩
  cbv
  (repeat' first | with_reducible rfl | exact (show Ch.base _ = _ from rfl) | ((try simp only [toI, inI, List.length_nil] at *); omega) | exact trivial | refine ⟨?_, ?_⟩ | refine ⟨?_⟩ | intro _)
  exact (hT1.trans hti2).symm
 ·replace hc := toI_nlt hc
  have hin : i = n := by omega
  subst hin
  rw [List.take_of_length_le (Nat.le_of_eq hksl)] at hti ⊢
  revert hti hs
  generalize ks.flatMap (leB · 8) = dd
  intro hs hti
  have htd : List.take (8 * i) (List.drop 0 dd) = dd := by rw [List.drop_zero]; exact List.take_of_length_le (Nat.le_of_eq hti)
  cbv
  refine VC.mk rf ?_
  cbv
  rw [htd]
  refine cP hΓ (hs) [0, 3] ?_
  rintro x hp' ⟨m, σ', pg', rfl, rfl, q1, q2, q3, q4⟩
  refine ⟨rfl, ?_⟩
  cbv
  refine Cl.by (v' := .tup [.int .u32 fun _ => toI m, .int .i64 fun _ => 0]) (hp' := psL b db σ' k v d) [.one 0, .one 1, .one 2, .one 3] 4 hb rfl rfl (nodup_of rfl) rfl ?_ rfl ?_ ⟨m, σ', pg', rfl, rfl, q1, q2, q3, q4⟩
  ·cbv
   exact rf
  ·cbv
   exact rf
end Go.Proofs.YtfoffehokhkohaaGreat
set_option maxRecDepth 20000
namespace Go.Proofs.YtfoffehokhkohaaGreat
open Go
variable [VPg]
set_option maxHeartbeats 1000000 in
theorem put_leaf (b db n : Nat) (σ : Sp) (pg : PG) (E : List Nat) (k v d : Gs) (hk : k.off + k.len ≤ k.N) (hkl : k.l.length = k.N) (hd : d.off + d.len ≤ d.N) (hdl : d.l.length = d.N) (hv : v.off + v.len ≤ v.N) (hvl : v.l.length = v.N) (h1 : k.len = n) (h2 : v.len = n) (h3 : d.len = 0) (hn : n ≤ 100000)
  (hI : Inv σ pg ((gNd 4 k v d).kids ++ E)) (hp : PageOk σ.size σ.blocks (gNd 4 k v d).page) (hfr : σ.sup.length < free σ) (hg : σ.gen + 1 < 9223372036854775808) (hpl : σ.pend.length < 800000000) :
  FnSpec Tryz.prog 150 (psL b db σ k v d) [.agg [.int .u8 fun _ => toI 4, gsV 1 k, gsV 2 v, gsV 3 d], .pt fun _ => ⟨b, 0, none⟩]
   (fun x hp => ∃ (m : Nat) (σ' : Sp) (pg' : PG), x = .tup [.int .u32 fun _ => toI m, .int .i64 fun _ => 0] ∧ hp = psL b db σ' k v d ∧
    Inv σ' pg' (m :: E) ∧ Step 1 σ σ' ∧ Keep pg pg' ((gNd 4 k v d).kids ++ E) ∧ pg' m = (gNd 4 k v d).page) := by
 have hr := refs_no k v d
 obtain ⟨ks, hks⟩ : ∃ ks, ks = subl k.l k.off k.len := ⟨_, rfl⟩
 have hksl : ks.length = n := by rw [hks, subl_length _ _ _ (by omega), h1]
 obtain ⟨vs, hvs⟩ : ∃ vs, vs = subl v.l v.off v.len := ⟨_, rfl⟩
 have hvsl : vs.length = n := by rw [hvs, subl_length _ _ _ (by omega), h2]
 obtain ⟨es, hes⟩ : ∃ es, es = ks.zip vs := ⟨_, rfl⟩
 have hesl : es.length = n := by rw [hes, List.length_zip]; omega
 have heg : ∀ i, i < n → es.getD i (0, 0) = (ks.getD i 0, vs.getD i 0) := fun i hi => by
  rw [hes, List.getD_eq_getElem?_getD, List.getD_eq_getElem?_getD, List.getD_eq_getElem?_getD, List.getElem?_eq_getElem (by rw [← hes]; omega), List.getElem?_eq_getElem (by omega), List.getElem?_eq_getElem (by omega)]
  simp
 have hdata : (gNd 4 k v d).page.data = es.flatMap fun e => leB e.1 8 ++ leB e.2 8 := by
  have e0 : (gNd 4 k v d).page.data = (gNd 4 k v d).data := rfl
  rw [e0]
  unfold Nd.data gNd
  rw [if_pos rfl, ← hks, ← hvs, ← hes]
 have hvg : ∀ i, i < n → v.l.getD (v.off + i) 0 = vs.getD i 0 := fun i hi => by
  rw [hvs]; unfold subl
  rw [List.getD_eq_getElem?_getD, List.getD_eq_getElem?_getD, List.getElem?_take, if_pos (by omega), List.getElem?_drop]
 have hfl : ∀ l : List (Nat × Nat), (l.flatMap fun e => leB e.1 8 ++ leB e.2 8).length = 16 * l.length := fun l => by
  induction l with
  | nil => rfl
  | cons e l ih => rw [List.flatMap_cons, List.length_append, ih, List.length_append, leB_length, leB_length, List.length_cons]; omega
 have hkg : ∀ i, i < n → k.l.getD (k.off + i) 0 = ks.getD i 0 := fun i hi => by
  rw [hks]; unfold subl
  rw [List.getD_eq_getElem?_getD, List.getD_eq_getElem?_getD, List.getElem?_take, if_pos (by omega), List.getElem?_drop]
 have htk : ∀ i, i < n → es.take (i + 1) = es.take i ++ [es.getD i (0, 0)] := fun i hi => by
  rw [List.take_add_one, List.getElem?_eq_getElem (by omega), List.getD_eq_getElem?_getD, List.getElem?_eq_getElem (by omega)]; rfl
 have hs := spc_Put b db d.N d.sp d.off d.len d.ext d.a d.ad d.l σ (gNd 4 k v d).page pg E hI hp hdl hd rfl (subl_length _ _ _ (by omega)).symm hfr hg hpl
 rw [hdata] at hs
 have htag : (gNd 4 k v d).page.tag = 4 := rfl
 have hkd : (gNd 4 k v d).page.kids = (gNd 4 k v d).kids := rfl
 rw [htag, hkd] at hs
 revert hs
 generalize (gNd 4 k v d).page = P
 generalize (gNd 4 k v d).kids = kd
 intro hs
 refine spec_cl mixed F150 rfl rfl rfl (fun Γ hΓ hb => ?_)
 cbv
 intro bx
 cbv
 refine loopJ (α := Nat × Option Addr × Option Addr × Nat) (fun (i, _, _, _) => i ≤ n) (fun (i, a', ad', e') => ⟨42, [(1, .pt fun _ => ⟨b, 0, none⟩), (2, .bp 4 0), (6, .sl 5 (fun _ => a') (fun _ => 0) (fun _ => 16 * i) (fun _ => e')), (10, gsV 1 k), (11, .int .i64 fun _ => toI n), (12, .int .i64 fun _ => toI i)],
  appL (psL b db σ k v d) [.box bx 90 [.int .u8 fun _ => toI 4, gsV 1 k, gsV 2 v, gsV 3 d] true, .arr ad' (fun _ => 16 * i) (fun _ => e') [.b8 fun _ => (es.take i).flatMap fun e => leB e.1 8 ++ leB e.2 8] true], []⟩)
  (fun (i, _, _, _) => n - i) (0, none, none, 0) (Nat.zero_le _) (Sub.nil [.b8] (sub2 [0, 1, 2, 3, 4, 5] 4 hb rfl rfl rfl rfl rfl rfl rfl rfl ?_)) ?_
 ·cbv
  (repeat' first | with_reducible rfl | exact (show Ch.base _ = _ from rfl) | ((try simp only [toI, inI, List.length_nil] at *); omega) | exact trivial | refine ⟨?_, ?_⟩ | refine ⟨?_⟩ | intro _)
  rfl
 rintro ⟨i, a', ad', e'⟩ hi
 have hi : i ≤ n := hi
 have hti : ((es.take i).flatMap fun e => leB e.1 8 ++ leB e.2 8).length = 16 * i := by rw [hfl, List.length_take]; omega
 cbv
 refine ⟨fun hc => ?_, fun hc => ?_⟩
 ·replace hc := toI_lt hc
  have hti2 : ((es.take (i + 1)).flatMap fun e => leB e.1 8 ++ leB e.2 8) = ((es.take i).flatMap fun e => leB e.1 8 ++ leB e.2 8) ++ leB (ks.getD i 0) 8 ++ leB (vs.getD i 0) 8 := by
   rw [htk i hc, List.flatMap_append, heg i hc]; simp
  have hgi := hkg i hc
  have hgv := hvg i hc
  revert hti hti2
  generalize ((es.take i).flatMap fun e => leB e.1 8 ++ leB e.2 8) = t0
  generalize hT1 : ((es.take (i + 1)).flatMap fun e => leB e.1 8 ++ leB e.2 8) = t1
  intro hti hti2
  cbv
  repeat ((first | refine VC.mk rf ?_ | refine ADD.mk rf ?_); cbv)
  rw [toI_toNat, hgi]
  obtain ⟨x, hx⟩ : ∃ x, ks.getD i 0 = x := ⟨_, rfl⟩
  rw [hx] at hti2 ⊢
  obtain ⟨y, hy⟩ : ∃ y, vs.getD i 0 = y := ⟨_, rfl⟩
  rw [hy] at hti2 hgv
  refine cP hΓ (octet_Put x 8 t0 a' ad' (16 * i) e' (by omega) (by omega) hti (by omega)) [5] ?_
  rintro x hp' ⟨a3, ad3, e3, rfl, rfl⟩
  refine ⟨rfl, ?_⟩
  cbv
  refine cP hΓ (hr) [1, 2, 3] ?_
  rintro x hp' ⟨rfl, rfl⟩
  refine ⟨rfl, ?_⟩
  cbv
  repeat ((first | refine VC.mk rf ?_ | refine ADD.mk rf ?_); cbv)
  rw [toI_toNat, hgv]
  refine cP hΓ (octet_Put y 8 (t0 ++ leB x 8) a3 ad3 (16 * i + 8) e3 (by omega) (by omega) (by rw [List.length_append, hti, leB_length]) (by omega)) [6] ?_
  rintro x hp' ⟨a4, ad4, e4, rfl, rfl⟩
  refine ⟨rfl, ?_⟩
  cbv
  refine .mk rf ?_
  cbv
  refine ⟨(i + 1, a4, ad4, e4), show i + 1 ≤ n by omega, show n - (i + 1) < n - i by omega, sub2 [0, 1, 2, 3, 4, 7] 4 hb rfl rfl rfl rfl rfl rfl rfl rfl ?_⟩
  cbv
  (repeat' first | with_reducible rfl | exact (show Ch.base _ = _ from rfl) | ((try simp only [toI, inI, List.length_nil] at *); omega) | exact trivial | refine ⟨?_, ?_⟩ | refine ⟨?_⟩ | intro _)
  exact (hT1.trans hti2).symm
 ·replace hc := toI_nlt hc
  have hin : i = n := by omega
  subst hin
  rw [List.take_of_length_le (Nat.le_of_eq hesl)] at hti ⊢
  revert hti hs
  generalize (es.flatMap fun e => leB e.1 8 ++ leB e.2 8) = dd
  intro hs hti
  have htd : List.take (16 * i) (List.drop 0 dd) = dd := by rw [List.drop_zero]; exact List.take_of_length_le (Nat.le_of_eq hti)
  cbv
  refine VC.mk rf ?_
  cbv
  rw [htd]
  refine cP hΓ (hs) [0, 3] ?_
  rintro x hp' ⟨m, σ', pg', rfl, rfl, q1, q2, q3, q4⟩
  refine ⟨rfl, ?_⟩
  cbv
  refine Cl.by (v' := .tup [.int .u32 fun _ => toI m, .int .i64 fun _ => 0]) (hp' := psL b db σ' k v d) [.one 0, .one 1, .one 2, .one 3] 4 hb rfl rfl (nodup_of rfl) rfl ?_ rfl ?_ ⟨m, σ', pg', rfl, rfl, q1, q2, q3, q4⟩
  ·cbv
   exact rf
  ·cbv
   exact rf
end Go.Proofs.YtfoffehokhkohaaGreat
namespace Go.Proofs.YtfoffehokhkohaaGreat
open Go
variable [VPg]
theorem Rep.keep {pg pg' : PG} {r : Bool} : ∀ {h n : Nat} {l : Ent}, Rep pg r h n l → Keep pg pg' [n] → Rep pg' r h n l
 | 0, n, l, ⟨x, ls, ⟨m, h0, h1, hv⟩, h2, h3, h4⟩, hk => ⟨x, ls, ⟨m, h0, h1, fun k hkk => (hk k (.kid (.root (List.mem_singleton.2 rfl)) (by rw [h2]; exact hkk))).trans (hv k hkk)⟩, (hk n (.root (by simp))).trans h2, h3, h4⟩
 | h + 1, n, l, ⟨x, ls, ⟨ks, h1, h2, h3⟩, h4, h5, h6⟩, hk => by
  refine ⟨x, ls, ⟨ks, h1, h2, fun p hp => (h3 p hp).keep (hk.to fun m hm => ?_)⟩, (hk n (.root (by simp))).trans h4, h5, h6⟩
  rw [List.mem_singleton] at hm
  subst hm
  refine .kid (.root (List.mem_singleton.2 rfl)) ?_
  rw [h4]
  show p.1 ∈ x.kids
  rw [h1]
  exact (List.of_mem_zip hp).1
theorem NR.keep {pg pg' : PG} {r : Bool} {h : Nat} {x : Nd} {ls : List Ent} (H : NR pg r h x ls) (hk : Keep pg pg' x.kids) : NR pg' r h x ls := by
 cases h with
 | zero =>
  obtain ⟨m, h0, h1, hv⟩ := H
  exact ⟨m, h0, h1, fun k hkk => (hk k (.root hkk)).trans (hv k hkk)⟩
 | succ h =>
  obtain ⟨ks, rfl, h2, h3⟩ := H
  exact ⟨ks, rfl, h2, fun p hp => (h3 p hp).keep (hk.mono fun m hm => by
   rw [List.mem_singleton] at hm
   subst hm
   exact (List.of_mem_zip hp).1)⟩
structure Room (σ : Sp) (k : Nat) : Prop where
 fr : σ.sup.length + k ≤ free σ
 gen : σ.gen + 1 < 9223372036854775808
 pend : σ.pend.length + k < 800000000
theorem Room.step {σ σ' : Sp} {j k : Nat} (h : Room σ (j + k)) (hs : Step j σ σ') : Room σ' k := by
 have h1 := h.fr
 have h2 := h.pend
 have h3 := hs.free
 have h4 := hs.pend
 refine ⟨?_, ?_, ?_⟩
 ·rw [hs.sup]; omega
 ·rw [hs.gen]; exact h.gen
 ·omega
theorem Room.le {σ : Sp} {j k : Nat} (h : Room σ k) (hj : j ≤ k) : Room σ j := ⟨by have := h.fr; omega, h.gen, by have := h.pend; omega⟩
def cutN (m fit : Nat) : Nat := (m + fit - 1) / fit
def cutA (m n i : Nat) : Nat := i * m / n
theorem cutN_ok {m fit : Nat} (hm : 1 ≤ m) (hf : 1 ≤ fit) : 1 ≤ cutN m fit ∧ m ≤ cutN m fit * fit ∧ (cutN m fit - 1) * fit < m ∧ cutN m fit ≤ m := by
 unfold cutN
 have h1 : 1 ≤ (m + fit - 1) / fit := (Nat.le_div_iff_mul_le (by omega)).2 (by omega)
 obtain ⟨n, hn⟩ : ∃ n, (m + fit - 1) / fit = n := ⟨_, rfl⟩
 have h2 : n * fit ≤ m + fit - 1 := by rw [← hn]; exact Nat.div_mul_le_self _ _
 have h3 : m + fit - 1 < (n + 1) * fit := by rw [← hn, Nat.mul_comm]; exact Nat.lt_mul_div_succ _ (by omega)
 rw [hn] at h1 ⊢
 rw [Nat.succ_mul] at h3
 have h4 : (n - 1) * fit = n * fit - fit := by rw [Nat.sub_mul, Nat.one_mul]
 have h5 : fit ≤ n * fit := Nat.le_mul_of_pos_left _ (by omega)
 refine ⟨h1, by omega, by omega, ?_⟩
 have h6 : (n - 1) * 1 ≤ (n - 1) * fit := Nat.mul_le_mul_left _ hf
 omega
theorem cutA_zero (m n : Nat) : cutA m n 0 = 0 := by unfold cutA; simp
theorem cutA_end (m n : Nat) (hn : 1 ≤ n) : cutA m n n = m := by unfold cutA; exact Nat.mul_div_cancel_left _ (by omega)
theorem cutA_le {m n i : Nat} (hi : i ≤ n) (hn : 1 ≤ n) : cutA m n i ≤ m := by
 unfold cutA
 exact Nat.div_le_of_le_mul (Nat.mul_le_mul_right _ hi)
theorem cutA_step {m n fit i c : Nat} (hn : 1 ≤ n) (hf : m ≤ n * fit) (hc : c * n ≤ m) : cutA m n i + c ≤ cutA m n (i + 1) ∧ cutA m n (i + 1) ≤ cutA m n i + fit := by
 unfold cutA
 obtain ⟨q, hq⟩ : ∃ q, i * m / n = q := ⟨_, rfl⟩
 have h1 : q * n ≤ i * m := by rw [← hq]; exact Nat.div_mul_le_self _ _
 have h2 : i * m < (q + 1) * n := by rw [← hq, Nat.mul_comm (i * m / n + 1)]; exact Nat.lt_mul_div_succ _ (by omega)
 rw [hq, Nat.succ_mul i m]
 constructor
 ·refine (Nat.le_div_iff_mul_le (by omega)).2 ?_
  rw [Nat.add_mul]
  omega
 ·refine Nat.le_of_lt_succ ((Nat.div_lt_iff_lt_mul (by omega)).2 ?_)
  rw [show (q + fit).succ = (q + 1) + fit by omega, Nat.add_mul, Nat.mul_comm fit n]
  omega
structure Shut (σ0 : Sp) (pg0 : PG) (E : List Nat) (r : Bool) (h : Nat) (x : Nd) (ls : List Ent) (c : Nat) (σ : Sp) (pg : PG) (Q : List (Nat × Ent)) : Prop where
 inv : Inv σ pg (Q.map (·.1) ++ (x.kids.drop c ++ E))
 step : Step Q.length σ0 σ
 keep : Keep pg0 pg (x.kids ++ E)
 rep : ∀ q ∈ Q, Rep pg r h q.1 q.2
 has : ∀ k ∈ x.kids.take c, Rch pg (Q.map (·.1)) k
 all : (Q.map (·.2)).flatten = (ls.take c).flatten
theorem Shut.start {σ0 : Sp} {pg0 : PG} {E : List Nat} {r : Bool} {h : Nat} {x : Nd} {ls : List Ent} (hI : Inv σ0 pg0 (x.kids ++ E)) : Shut σ0 pg0 E r h x ls 0 σ0 pg0 [] :=
 ⟨hI, Step.refl _, Keep.refl _ _, fun q hq => (by cases hq), fun k hk => (by simp at hk), by simp⟩
theorem subl_take_drop {α : Type} (l : List α) (a b : Nat) (h : a ≤ b) : subl l a (b - a) ++ l.drop b = l.drop a := by
 unfold subl
 have : l.drop b = (l.drop a).drop (b - a) := by rw [List.drop_drop]; congr 1; omega
 rw [this, List.take_append_drop]
theorem take_subl {α : Type} (l : List α) (a b : Nat) (h : a ≤ b) : l.take a ++ subl l a (b - a) = l.take b := by
 unfold subl
 have : b = a + (b - a) := by omega
 conv => rhs; rw [this, List.take_add]
theorem Shut.next {σ0 : Sp} {pg0 : PG} {E : List Nat} {r : Bool} {h : Nat} {x : Nd} {ls : List Ent} {a b : Nat} {σ : Sp} {pg : PG} {Q : List (Nat × Ent)} (H : Shut σ0 pg0 E r h x ls a σ pg Q) (hN : NR pg0 r h x ls) (hab : a ≤ b) (hb : b ≤ ls.length) (hl : a + least h ≤ b) :
  Inv σ pg ((x.part a b).kids ++ (Q.map (·.1) ++ (x.kids.drop b ++ E))) ∧
  ∀ (n : Nat) (σ' : Sp) (pg' : PG), Inv σ' pg' (n :: (Q.map (·.1) ++ (x.kids.drop b ++ E))) → Step 1 σ σ' → Keep pg pg' ((x.part a b).kids ++ (Q.map (·.1) ++ (x.kids.drop b ++ E))) → pg' n = (x.part a b).page →
   Shut σ0 pg0 E r h x ls b σ' pg' (Q ++ [(n, (subl ls a (b - a)).flatten)]) := by
 have hk : (x.part a b).kids = subl x.kids a (b - a) := rfl
 refine ⟨H.inv.perm ?_, fun n σ' pg' h1 h2 h3 h4 => ?_⟩
 ·rw [hk, ← subl_take_drop x.kids a b hab, List.append_assoc]
  exact (List.perm_append_comm_assoc _ _ _)
 have hNx : NR pg r h x ls := hN.keep (H.keep.mono fun k hk => List.mem_append_left _ hk)
 have hNy : NR pg r h (x.part a b) (subl ls a (b - a)) := hNx.part a b
 have hNy' : NR pg' r h (x.part a b) (subl ls a (b - a)) := hNy.keep (h3.mono fun k hk => List.mem_append_left _ hk)
 have hQ : Keep pg pg' (Q.map (·.1)) := h3.mono fun k hk => List.mem_append_right _ (List.mem_append_left _ hk)
 have hsl : (subl ls a (b - a)).length = b - a := subl_length _ _ _ (by omega)
 have hRn : Rep pg' r h n (subl ls a (b - a)).flatten := rep_iff.2 ⟨_, _, hNy', h4, rfl, by rw [hsl]; omega⟩
 have hmm : ∀ k, k ∈ Q.map (·.1) → k ∈ (Q ++ [(n, (subl ls a (b - a)).flatten)]).map (·.1) := fun k hk => by rw [List.map_append]; exact List.mem_append_left _ hk
 have hnm : n ∈ (Q ++ [(n, (subl ls a (b - a)).flatten)]).map (·.1) := by rw [List.map_append]; exact List.mem_append_right _ (by simp)
 refine ⟨h1.perm ?_, by rw [List.length_append]; exact H.step.trans h2, H.keep.trans (h3.to fun k hk => ?_), fun q hq => ?_, fun k hk => ?_, ?_⟩
 ·rw [List.map_append, List.append_assoc]
  exact (List.perm_append_comm_assoc [n] _ _)
 ·rcases List.mem_append.1 hk with hk | hk
  ·rw [← List.take_append_drop a x.kids] at hk
   rcases List.mem_append.1 hk with hk | hk
   ·exact (H.has k hk).mono fun m hm => List.mem_append_right _ (List.mem_append_left _ hm)
   ·rw [← subl_take_drop x.kids a b hab] at hk
    rcases List.mem_append.1 hk with hk | hk
    ·exact .root (List.mem_append_left _ hk)
    ·exact .root (List.mem_append_right _ (List.mem_append_right _ (List.mem_append_left _ hk)))
  ·exact .root (List.mem_append_right _ (List.mem_append_right _ (List.mem_append_right _ hk)))
 ·rcases List.mem_append.1 hq with hq | hq
  ·exact (H.rep q hq).keep (hQ.mono fun m hm => by
    rw [List.mem_singleton] at hm
    subst hm
    exact List.mem_map_of_mem hq)
  ·rw [List.mem_singleton] at hq
   subst hq
   exact hRn
 ·rw [← take_subl x.kids a b hab] at hk
  rcases List.mem_append.1 hk with hk | hk
  ·exact (hQ.reach (H.has k hk)).mono hmm
  ·refine .kid (.root hnm) ?_
   rw [h4]
   exact hk
 ·rw [List.map_append, List.flatten_append, H.all, ← take_subl ls a b hab, List.flatten_append]
  simp
end Go.Proofs.YtfoffehokhkohaaGreat
set_option maxRecDepth 20000
namespace Go.Proofs.YtfoffehokhkohaaGreat
open Go
variable [VPg]
theorem data_len (x : Nd) (h : x.tag = 4 → x.vals.length = x.keys.length) : x.data.length = if x.tag = 4 then 16 * x.keys.length else 8 * x.keys.length := by
 unfold Nd.data
 split
 ·rename_i h4
  have hfl : ∀ l : List (Nat × Nat), (l.flatMap fun e => leB e.1 8 ++ leB e.2 8).length = 16 * l.length := fun l => by
   induction l with
   | nil => rfl
   | cons e l ih => rw [List.flatMap_cons, List.length_append, ih, List.length_append, leB_length, leB_length, List.length_cons]; omega
  rw [hfl, List.length_zip, h h4, Nat.min_self]
 ·rw [flatMap_leB_length]
theorem page_ok {σ : Sp} {pg : PG} {F : List Nat} {y : Nd} (hI : Inv σ pg (y.kids ++ F)) (hk : y.tag = 4 ∧ y.vals.length = y.keys.length ∧ y.kids = [] ∨ (y.tag = 3 ∨ y.tag = 5) ∧ y.kids.length = y.keys.length) (hf : y.keys.length ≤ mostE σ y.tag) : PageOk σ.size σ.blocks y.page := by
 have hs1 := hI.ok.geo.h1
 have hs2 := hI.ok.geo.h2
 have hR : spRoom σ 0 = σ.size - 18 := by unfold spRoom; rw [if_neg (by omega)]; omega
 have hd := data_len y (fun h => by rcases hk with ⟨_, h, _⟩ | ⟨h1, _⟩; exact h; omega)
 unfold mostE at hf
 rw [hR] at hf
 have hpk : y.page.kids = y.kids := rfl
 have hpt : y.page.tag = y.tag := rfl
 have hpd : y.page.data = y.data := rfl
 refine ⟨by rw [hpt]; omega, by rw [hpt]; omega, ?_, ?_, fun n hn => ?_⟩
 ·rw [hpk]
  rcases hk with ⟨_, _, h⟩ | ⟨h1, h2⟩
  ·rw [h]; simp
  ·rw [if_neg (by omega)] at hf; omega
 ·rw [hpk, hpd, hd]
  rcases hk with ⟨h1, _, h⟩ | ⟨h1, h2⟩
  ·rw [if_pos h1] at hf; rw [if_pos h1, h, List.length_nil]; omega
  ·rw [if_neg (by omega)] at hf; rw [if_neg (by omega)]; omega
 ·have ha := asked_lt (hI.ext n (List.mem_append_left _ hn))
  exact ⟨ha.1, ha.2.1⟩
theorem NR.kind {pg : PG} {r : Bool} {h : Nat} {x : Nd} {ls : List Ent} (H : NR pg r h x ls) : x.tag = 4 ∧ x.vals.length = x.keys.length ∧ x.kids = [] ∨ (x.tag = 3 ∨ x.tag = 5) ∧ x.kids.length = x.keys.length ∧ x.vals = [] := by
 have hv := H.vals
 have hd := H.kids
 have ht := H.tag
 rw [H.keys, List.length_map]
 cases h with
 | zero =>
  cases r with
  | true => exact .inr ⟨.inr ht, by simpa using hd, List.eq_nil_of_length_eq_zero (by simpa using hv)⟩
  | false => exact .inl ⟨ht, by simpa using hv, List.eq_nil_of_length_eq_zero (by simpa using hd)⟩
 | succ h => exact .inr ⟨.inl ht, by simpa using hd, List.eq_nil_of_length_eq_zero (by simpa using hv)⟩
theorem subl_subl (l : List Nat) (o n a m : Nat) (h : a + m ≤ n) : subl (subl l o n) a m = subl l (o + a) m := by
 unfold subl
 rw [List.drop_take, List.take_take, List.drop_drop, Nat.min_eq_left (by omega)]
theorem hd_flatten {ls : List Ent} (hne : ∀ l ∈ ls, l ≠ []) {a b : Nat} (hab : a < b) (hb : b ≤ ls.length) : hd (subl ls a (b - a)).flatten = (ls.map hd).getD a 0 := by
 have h1 : subl ls a (b - a) = ls[a] :: (ls.drop (a + 1)).take (b - a - 1) := by
  unfold subl
  rw [List.drop_eq_getElem_cons (by omega)]
  obtain ⟨c, hc⟩ : ∃ c, b - a = c + 1 := ⟨b - a - 1, by omega⟩
  rw [hc, List.take_succ_cons]
  rfl
 rw [h1, List.flatten_cons, List.getD_eq_getElem?_getD, List.getElem?_map, List.getElem?_eq_getElem (by omega)]
 have := hne ls[a] (List.getElem_mem _)
 cases hl : ls[a] with
 | nil => exact absurd hl this
 | cons e t => rfl
def ShutR (b db : Nat) (k v d : Gs) (σ0 : Sp) (pg0 : PG) (E : List Nat) (r : Bool) (h : Nat) (x : Nd) (ls : List Ent) (n : Nat) : KV := fun y hp => ∃ (σ : Sp) (pg : PG) (Q : List (Nat × Ent)) (a1 ad1 a2 ad2 : Option Addr) (e1 e2 : Nat),
 y = .tup [.sl 4 (fun _ => a1) (fun _ => 0) (fun _ => n) (fun _ => e1), .sl 5 (fun _ => a2) (fun _ => 0) (fun _ => n) (fun _ => e2), .int .i64 fun _ => 0] ∧
 hp = appL (psL b db σ k v d) [.arr ad1 (fun _ => n) (fun _ => e1) [.nat .u64 fun _ => Q.map fun q => hd q.2] true, .arr ad2 (fun _ => n) (fun _ => e2) [.nat .u32 fun _ => Q.map fun q => q.1] true] ∧
 Shut σ0 pg0 E r h x ls ls.length σ pg Q ∧ Q.length = n
set_option maxHeartbeats 2000000 in
theorem shut_leaf (b db m n fit : Nat) (σ0 : Sp) (pg0 : PG) (E : List Nat) (k v d : Gs) (ls : List Ent) (hk : k.off + k.len ≤ k.N) (hkl : k.l.length = k.N) (hd0 : d.off + d.len ≤ d.N) (hdl : d.l.length = d.N) (hv : v.off + v.len ≤ v.N) (hvl : v.l.length = v.N)
  (h1 : k.len = m) (h2 : v.len = m) (h3 : d.len = 0) (hm1 : 1 ≤ m) (hm : m ≤ 100000) (hN : NR pg0 false 0 (gNd 4 k v d) ls) (hls : ls.length = m) (hfit : mostE σ0 4 = fit) (hn : cutN m fit = n)
  (hI : Inv σ0 pg0 ((gNd 4 k v d).kids ++ E)) (hR : Room σ0 (n + 1)) :
  FnSpec Tryz.prog 96 (psL b db σ0 k v d) [.agg [.int .u8 fun _ => toI 4, gsV 1 k, gsV 2 v, gsV 3 d], .pt fun _ => ⟨b, 0, none⟩] (ShutR b db k v d σ0 pg0 E false 0 (gNd 4 k v d) ls n) := by
 have hs1 := hI.ok.geo.h1
 have hs2 := hI.ok.geo.h2
 have hfit2 : fit = (σ0.size - 18) / 16 := by
  rw [← hfit]; unfold mostE; rw [if_pos rfl]
  unfold spRoom; rw [if_neg (by omega)]; omega
 have hf6 : 6 ≤ fit := by omega
 have hfl : fit ≤ 300 := by omega
 obtain ⟨c1, c2, c3, c4⟩ := cutN_ok (fit := fit) hm1 (by omega)
 rw [hn] at c1 c2 c3 c4
 have hmost := most_ok b db 4 σ0 hI.ok
 rw [hfit] at hmost
 obtain ⟨x, hx⟩ : ∃ x, x = gNd 4 k v d := ⟨_, rfl⟩
 rw [← hx] at hN hI ⊢
 have hst := Shut.start (r := false) (h := 0) (ls := ls) hI
 subst h1
 have hq : (toI k.len + toI fit - 1).tdiv (toI fit) = toI n := by
  rw [← hn]
  unfold cutN
  have e0 : toI k.len + toI fit - 1 = toI (k.len + fit - 1) := by exact om
  rw [e0]
  simp only [toI]
  rw [Int.tdiv_eq_ediv_of_nonneg (by omega)]
  exact (Int.natCast_ediv _ _).symm
 refine spec_cl mixed F96 rfl rfl rfl (fun Γ hΓ hb => ?_)
 cbv
 intro bx
 cbv
 refine cP hΓ (hmost) [0] ?_
 rintro x hp' ⟨rfl, rfl⟩
 refine ⟨rfl, ?_⟩
 cbv
 refine .no (decide_eq_false om) ?_
 cbv
 refine .mk rf ?_
 cbv
 refine VC.mk rf ?_
 cbv
 rw [hq]
 refine VC.mk rf ?_
 cbv
 refine loopJ (α := Nat × Sp × PG × List (Nat × Ent) × Option Addr × Option Addr × Nat × Option Addr × Option Addr × Nat) (fun (i, σ, pg, Q, _) => i ≤ n ∧ Q.length = i ∧ Shut σ0 pg0 E false 0 x ls (cutA k.len n i) σ pg Q)
  (fun (i, σ, pg, Q, a1, ad1, e1, a2, ad2, e2) => ⟨71, [(1, .pt fun _ => ⟨b, 0, none⟩), (2, .bp 4 0), (4, .sl 5 (fun _ => a1) (fun _ => 0) (fun _ => i) (fun _ => e1)), (5, .sl 6 (fun _ => a2) (fun _ => 0) (fun _ => i) (fun _ => e2)), (8, .int .i64 fun _ => toI n), (27, .int .i64 fun _ => toI n), (28, .int .i64 fun _ => toI i)],
   appL (psL b db σ k v d) [.box bx 90 [.int .u8 fun _ => toI 4, gsV 1 k, gsV 2 v, gsV 3 d] true, .arr ad1 (fun _ => i) (fun _ => e1) [.nat .u64 fun _ => Q.map fun q => hd q.2] true, .arr ad2 (fun _ => i) (fun _ => e2) [.nat .u32 fun _ => Q.map fun q => q.1] true], []⟩)
  (fun (i, _) => n - i) (0, σ0, pg0, [], none, none, 0, none, none, 0) ⟨Nat.zero_le _, rfl, by rw [cutA_zero]; exact hst⟩ (Sub.nil [.nat .u64] (Sub.nil [.nat .u32] (sub2 [0, 1, 2, 3, 4, 5, 6] 4 hb rfl rfl rfl rfl rfl rfl rfl rfl ?_))) ?_
 ·cbv
  (repeat' first | with_reducible rfl | exact (show Ch.base _ = _ from rfl) | ((try simp only [toI, inI, List.length_nil] at *); omega) | exact trivial | refine ⟨?_, ?_⟩ | refine ⟨?_⟩ | intro _)
  all_goals rfl
 rintro ⟨i, σ, pg, Q, a1, ad1, e1, a2, ad2, e2⟩ hJ
 have hJ : i ≤ n ∧ Q.length = i ∧ Shut σ0 pg0 E false 0 x ls (cutA k.len n i) σ pg Q := hJ
 obtain ⟨hi, hQ, hS⟩ := hJ
 cbv
 refine ⟨fun hc => ?_, fun hc => ?_⟩
 ·replace hc := toI_lt hc
  obtain ⟨g1, g2⟩ := cutA_step (i := i) (c := 1) c1 c2 (by omega)
  have g3 := cutA_le (m := k.len) (show i + 1 ≤ n by omega) c1
  have m1 : toI i * toI k.len = toI (i * k.len) := by simp only [toI]; exact (Int.natCast_mul i k.len).symm
  have m2 : (toI i + 1) * toI k.len = toI ((i + 1) * k.len) := by simp only [toI]; rw [Int.natCast_mul]; rfl
  have m3 : i * k.len ≤ 100000 * 100000 := Nat.mul_le_mul (by omega) (by omega)
  have m4 : (i + 1) * k.len ≤ 100000 * 100000 := Nat.mul_le_mul (by omega) (by omega)
  have dd : ∀ j, (toI (j * k.len)).tdiv (toI n) = toI (cutA k.len n j) := fun j => by
   unfold cutA
   simp only [toI]
   rw [Int.tdiv_eq_ediv_of_nonneg (by omega)]
   exact (Int.natCast_ediv _ _).symm
  have d1 := dd i
  have d2 := dd (i + 1)
  obtain ⟨A, hA⟩ : ∃ A, cutA k.len n i = A := ⟨_, rfl⟩
  obtain ⟨B, hB⟩ : ∃ B, cutA k.len n (i + 1) = B := ⟨_, rfl⟩
  rw [hA] at d1 g1 g2 hS
  rw [hB] at d2 g1 g2 g3
  obtain ⟨M1, hM1⟩ : ∃ M1, i * k.len = M1 := ⟨_, rfl⟩
  obtain ⟨M2, hM2⟩ : ∃ M2, (i + 1) * k.len = M2 := ⟨_, rfl⟩
  rw [hM1] at m1 m3 d1
  rw [hM2] at m2 m4 d2
  cbv
  rw [m1]
  refine VC.mk rf ?_
  cbv
  rw [d1]
  refine VC.mk rf ?_
  cbv
  refine .mk rf ?_
  cbv
  rw [m2]
  refine VC.mk rf ?_
  cbv
  rw [d2]
  refine VC.mk rf ?_
  cbv
  obtain ⟨hIy, hnx⟩ := hS.next hN (by omega) (by omega) (show A + 1 ≤ B from g1)
  obtain ⟨y, hy⟩ : ∃ y, y = x.part A B := ⟨_, rfl⟩
  rw [← hy] at hIy hnx
  have hyk : y.keys.length = B - A := by rw [hy]; show (subl x.keys A (B - A)).length = _; rw [subl_length _ _ _ (by rw [hN.keys, List.length_map]; omega)]
  have hyt : y.tag = 4 := by rw [hy]; show x.tag = 4; rw [hx]; rfl
  have hNy := hN.part A B
  rw [← hy] at hNy
  have hsz : mostE σ 4 = fit := by rw [← hfit]; unfold mostE spRoom; rw [hS.step.size]
  have hpo : PageOk σ.size σ.blocks y.page := page_ok hIy (by rcases hNy.kind with h | h; exact .inl h; exact .inr ⟨h.1, h.2.1⟩) (by rw [hyk, hyt, hsz]; omega)
  have hRm : Room σ (n + 1 - i) := Room.step (by rw [hQ, show i + (n + 1 - i) = n + 1 by omega]; exact hR) hS.step
  have hr1 := hRm.fr
  have hr2 := hRm.pend
  have hgy : ∀ (p1 p2 : Option Addr) (x1 x2 : Nat), gNd 4 ⟨p1, k.off + A, B - A, x1, k.ad, k.N, k.sp, k.l⟩ ⟨p2, v.off + A, B - A, x2, v.ad, v.N, v.sp, v.l⟩ ⟨none, 0, 0, 0, none, 0, 0, []⟩ = y := by
   intro p1 p2 x1 x2
   rw [hy, hx]
   unfold gNd Nd.part
   rw [subl_subl _ _ _ _ _ (by omega), subl_subl _ _ _ _ _ (by omega), h3]
   simp [subl]
  have hput := fun (p1 p2 : Option Addr) (x1 x2 : Nat) => put_leaf b db (B - A) σ pg (Q.map (·.1) ++ (x.kids.drop B ++ E)) ⟨p1, k.off + A, B - A, x1, k.ad, k.N, k.sp, k.l⟩ ⟨p2, v.off + A, B - A, x2, v.ad, v.N, v.sp, v.l⟩ ⟨none, 0, 0, 0, none, 0, 0, []⟩
   (by show k.off + A + (B - A) ≤ k.N; omega) hkl (by show 0 + 0 ≤ 0; omega) rfl (by show v.off + A + (B - A) ≤ v.N; omega) hvl rfl rfl rfl (by omega) (by rw [hgy]; exact hIy) (by rw [hgy]; exact hpo) (by omega) hRm.gen (by omega)
  simp only [hgy] at hput
  have hky : k.l.getD (k.off + A + (0 : Int).toNat) 0 = hd (subl ls A (B - A)).flatten := by
   rw [hd_flatten hN.ne (by omega) (by omega), ← hN.keys, hx]
   show _ = (subl k.l k.off k.len).getD A 0
   unfold subl
   rw [List.getD_eq_getElem?_getD, List.getD_eq_getElem?_getD, List.getElem?_take, if_pos (by omega), List.getElem?_drop]
   rfl
  obtain ⟨K, hK⟩ : ∃ K, hd (subl ls A (B - A)).flatten = K := ⟨_, rfl⟩
  rw [hK] at hky
  clear hgy hpo hIy hNy
  refine AND2.mk ?_ ?_
  ·cbv
   refine cP hΓ (part_leaf A B k v d (by omega) (by omega) (by omega) (by omega) (by omega) hk hv) [1, 2, 3] ?_
   rintro x hp' ⟨p1, p2, x1, x2, rfl, rfl⟩
   refine ⟨rfl, ?_⟩
   cbv
   intro yb
   cbv
   refine callP_nil [.nat .u32] (args' := [.agg [.int .u8 fun _ => toI 4, .sl 1 (fun _ => p1) (fun _ => k.off + A) (fun _ => B - A) (fun _ => x1), .sl 2 (fun _ => p2) (fun _ => v.off + A) (fun _ => B - A) (fun _ => x2), .sl 8 (fun _ => none) (fun _ => 0) (fun _ => 0) (fun _ => 0)], .pt fun _ => ⟨b, 0, none⟩]) rfl (by cbv; exact rf) ?_
   refine cP hΓ (hput p1 p2 x1 x2) [0, 1, 2, 8] ?_
   rintro x hp' ⟨m', σ', pg', rfl, rfl, q1, q2, q3, q4⟩
   refine ⟨rfl, ?_⟩
   cbv
   refine .no (neF rfl) ?_
   cbv
   refine VC.mk rf ?_
   cbv
   refine VC.mk rf ?_
   cbv
   rw [hky]
   refine VC.mk ⟨rf, trivial⟩ fun b5 => ?_
   cbv
   refine .any (VC.mk rf fun a3 a4 e3 hx3 => ?_)
   cbv
   refine VC.mk ⟨rf, trivial⟩ fun b6 => ?_
   cbv
   refine .any (VC.mk rf fun a5 a6 e5 hx5 => ?_)
   cbv
   refine .mk rf ?_
   cbv
   have hnx2 := hnx m' σ' pg' q1 q2 q3 q4
   obtain ⟨Q2, hQ2⟩ : ∃ Q2, Q2 = Q ++ [(m', (subl ls A (B - A)).flatten)] := ⟨_, rfl⟩
   rw [← hQ2] at hnx2
   have hQk : (Q2.map fun q => hd q.2) = (Q.map fun q => hd q.2) ++ [K] := by rw [hQ2, List.map_append, ← hK]; rfl
   have hQp : (Q2.map fun q => q.1) = (Q.map fun q => q.1) ++ [m'] := by rw [hQ2, List.map_append]; rfl
   refine ⟨(i + 1, σ', pg', Q2, a4, a3, e3, a6, a5, e5), ⟨by omega, by rw [hQ2, List.length_append, hQ]; rfl, by rw [hB]; exact hnx2⟩, show n - (i + 1) < n - i by omega, sub2 [0, 1, 2, 3, 4, 10, 12] 4 hb rfl rfl rfl rfl rfl rfl rfl rfl ?_⟩
   cbv
   (repeat' first | with_reducible rfl | exact (show Ch.base _ = _ from rfl) | ((try simp only [toI, inI, List.length_nil] at *); omega) | exact trivial | refine ⟨?_, ?_⟩ | refine ⟨?_⟩ | intro _)
   ·rw [hQk, toI_toNat, List.drop_zero, List.take_of_length_le (by rw [List.length_map]; omega)]
    rfl
   ·rw [hQp, toI_toNat, List.drop_zero, List.take_of_length_le (by rw [List.length_map]; omega)]
    rfl
  ·cbv
   intro yb
   cbv
   repeat (refine VC.mk (by first | rfl | exact rf) ?_; cbv)
   refine cP hΓ (part_leaf A B k v d (by omega) (by omega) (by omega) (by omega) (by omega) hk hv) [1, 2, 3] ?_
   rintro x hp' ⟨p1, p2, x1, x2, rfl, rfl⟩
   refine ⟨rfl, ?_⟩
   cbv
   refine callP_nil [.nat .u32] (args' := [.agg [.int .u8 fun _ => toI 4, .sl 1 (fun _ => p1) (fun _ => k.off + A) (fun _ => B - A) (fun _ => x1), .sl 2 (fun _ => p2) (fun _ => v.off + A) (fun _ => B - A) (fun _ => x2), .sl 8 (fun _ => none) (fun _ => 0) (fun _ => 0) (fun _ => 0)], .pt fun _ => ⟨b, 0, none⟩]) rfl (by cbv; exact rf) ?_
   refine cP hΓ (hput p1 p2 x1 x2) [0, 1, 2, 8] ?_
   rintro x hp' ⟨m', σ', pg', rfl, rfl, q1, q2, q3, q4⟩
   refine ⟨rfl, ?_⟩
   cbv
   refine .no (neF rfl) ?_
   cbv
   refine VC.mk rf ?_
   cbv
   refine VC.mk rf ?_
   cbv
   rw [hky]
   refine VC.mk ⟨rf, trivial⟩ fun b5 => ?_
   cbv
   refine .any (VC.mk rf fun a3 a4 e3 hx3 => ?_)
   cbv
   refine VC.mk ⟨rf, trivial⟩ fun b6 => ?_
   cbv
   refine .any (VC.mk rf fun a5 a6 e5 hx5 => ?_)
   cbv
   refine .mk rf ?_
   cbv
   have hnx2 := hnx m' σ' pg' q1 q2 q3 q4
   obtain ⟨Q2, hQ2⟩ : ∃ Q2, Q2 = Q ++ [(m', (subl ls A (B - A)).flatten)] := ⟨_, rfl⟩
   rw [← hQ2] at hnx2
   have hQk : (Q2.map fun q => hd q.2) = (Q.map fun q => hd q.2) ++ [K] := by rw [hQ2, List.map_append, ← hK]; rfl
   have hQp : (Q2.map fun q => q.1) = (Q.map fun q => q.1) ++ [m'] := by rw [hQ2, List.map_append]; rfl
   refine ⟨(i + 1, σ', pg', Q2, a4, a3, e3, a6, a5, e5), ⟨by omega, by rw [hQ2, List.length_append, hQ]; rfl, by rw [hB]; exact hnx2⟩, show n - (i + 1) < n - i by omega, sub2 [0, 1, 2, 3, 4, 10, 12] 4 hb rfl rfl rfl rfl rfl rfl rfl rfl ?_⟩
   cbv
   (repeat' first | with_reducible rfl | exact (show Ch.base _ = _ from rfl) | ((try simp only [toI, inI, List.length_nil] at *); omega) | exact trivial | refine ⟨?_, ?_⟩ | refine ⟨?_⟩ | intro _)
   ·rw [hQk, toI_toNat, List.drop_zero, List.take_of_length_le (by rw [List.length_map]; omega)]
    rfl
   ·rw [hQp, toI_toNat, List.drop_zero, List.take_of_length_le (by rw [List.length_map]; omega)]
    rfl
 ·replace hc := toI_nlt hc
  have hin : i = n := by omega
  subst hin
  rw [cutA_end _ _ c1] at hS
  cbv
  refine Cl.by (v' := .tup [.sl 4 (fun _ => a1) (fun _ => 0) (fun _ => i) (fun _ => e1), .sl 5 (fun _ => a2) (fun _ => 0) (fun _ => i) (fun _ => e2), .int .i64 fun _ => 0])
   (hp' := appL (psL b db σ k v d) [.arr ad1 (fun _ => i) (fun _ => e1) [.nat .u64 fun _ => Q.map fun q => hd q.2] true, .arr ad2 (fun _ => i) (fun _ => e2) [.nat .u32 fun _ => Q.map fun q => q.1] true]) [.one 0, .one 1, .one 2, .one 3, .one 5, .one 6] 4 hb rfl rfl (nodup_of rfl) rfl ?_ rfl ?_
   ⟨σ, pg, Q, a1, ad1, a2, ad2, e1, e2, rfl, rfl, by rw [hls]; exact hS, hQ⟩
  ·cbv
   exact rf
  ·cbv
   exact rf
end Go.Proofs.YtfoffehokhkohaaGreat
set_option maxRecDepth 20000
namespace Go.Proofs.YtfoffehokhkohaaGreat
open Go
variable [VPg]
set_option maxHeartbeats 2000000 in
theorem shut_kids (b db tag h m n fit : Nat) (r : Bool) (σ0 : Sp) (pg0 : PG) (E : List Nat) (k v d : Gs) (ls : List Ent) (hk : k.off + k.len ≤ k.N) (hkl : k.l.length = k.N) (hd0 : d.off + d.len ≤ d.N) (hdl : d.l.length = d.N) (hv : v.off + v.len ≤ v.N) (hvl : v.l.length = v.N)
  (h1 : k.len = m) (h2 : d.len = m) (h3 : v.len = 0) (ht4 : tag ≠ 4) (hm1 : 1 ≤ m) (hm : m ≤ 100000) (hN : NR pg0 r h (gNd tag k v d) ls) (hle : least h ≤ m) (hls : ls.length = m) (hfit : mostE σ0 tag = fit) (hn : cutN m fit = n)
  (hI : Inv σ0 pg0 ((gNd tag k v d).kids ++ E)) (hR : Room σ0 (n + 1)) :
  FnSpec Tryz.prog 96 (psL b db σ0 k v d) [.agg [.int .u8 fun _ => toI tag, gsV 1 k, gsV 2 v, gsV 3 d], .pt fun _ => ⟨b, 0, none⟩] (ShutR b db k v d σ0 pg0 E r h (gNd tag k v d) ls n) := by
 have hs1 := hI.ok.geo.h1
 have hs2 := hI.ok.geo.h2
 have hfit2 : fit = (σ0.size - 18) / 12 := by
  rw [← hfit]; unfold mostE; rw [if_neg ht4]
  unfold spRoom; rw [if_neg (by omega)]; omega
 have hf6 : 9 ≤ fit := by omega
 have hfl : fit ≤ 400 := by omega
 obtain ⟨c1, c2, c3, c4⟩ := cutN_ok (fit := fit) hm1 (by omega)
 rw [hn] at c1 c2 c3 c4
 have hmost := most_ok b db tag σ0 hI.ok
 rw [hfit] at hmost
 obtain ⟨x, hx⟩ : ∃ x, x = gNd tag k v d := ⟨_, rfl⟩
 rw [← hx] at hN hI ⊢
 have hst := Shut.start (r := r) (h := h) (ls := ls) hI
 have hcn : least h * n ≤ m := by
  unfold least at hle ⊢
  have h9 : (n - 1) * 9 ≤ (n - 1) * fit := Nat.mul_le_mul_left _ hf6
  split at hle <;> split <;> omega
 subst h1
 have hq : (toI k.len + toI fit - 1).tdiv (toI fit) = toI n := by
  rw [← hn]
  unfold cutN
  have e0 : toI k.len + toI fit - 1 = toI (k.len + fit - 1) := by exact om
  rw [e0]
  simp only [toI]
  rw [Int.tdiv_eq_ediv_of_nonneg (by omega)]
  exact (Int.natCast_ediv _ _).symm
 refine spec_cl mixed F96 rfl rfl rfl (fun Γ hΓ hb => ?_)
 cbv
 intro bx
 cbv
 refine cP hΓ (hmost) [0] ?_
 rintro x hp' ⟨rfl, rfl⟩
 refine ⟨rfl, ?_⟩
 cbv
 refine .no (decide_eq_false om) ?_
 cbv
 refine .mk rf ?_
 cbv
 refine VC.mk rf ?_
 cbv
 rw [hq]
 refine VC.mk rf ?_
 cbv
 refine loopJ (α := Nat × Sp × PG × List (Nat × Ent) × Option Addr × Option Addr × Nat × Option Addr × Option Addr × Nat) (fun (i, σ, pg, Q, _) => i ≤ n ∧ Q.length = i ∧ Shut σ0 pg0 E r h x ls (cutA k.len n i) σ pg Q)
  (fun (i, σ, pg, Q, a1, ad1, e1, a2, ad2, e2) => ⟨71, [(1, .pt fun _ => ⟨b, 0, none⟩), (2, .bp 4 0), (4, .sl 5 (fun _ => a1) (fun _ => 0) (fun _ => i) (fun _ => e1)), (5, .sl 6 (fun _ => a2) (fun _ => 0) (fun _ => i) (fun _ => e2)), (8, .int .i64 fun _ => toI n), (27, .int .i64 fun _ => toI n), (28, .int .i64 fun _ => toI i)],
   appL (psL b db σ k v d) [.box bx 90 [.int .u8 fun _ => toI tag, gsV 1 k, gsV 2 v, gsV 3 d] true, .arr ad1 (fun _ => i) (fun _ => e1) [.nat .u64 fun _ => Q.map fun q => hd q.2] true, .arr ad2 (fun _ => i) (fun _ => e2) [.nat .u32 fun _ => Q.map fun q => q.1] true], []⟩)
  (fun (i, _) => n - i) (0, σ0, pg0, [], none, none, 0, none, none, 0) ⟨Nat.zero_le _, rfl, by rw [cutA_zero]; exact hst⟩ (Sub.nil [.nat .u64] (Sub.nil [.nat .u32] (sub2 [0, 1, 2, 3, 4, 5, 6] 4 hb rfl rfl rfl rfl rfl rfl rfl rfl ?_))) ?_
 ·cbv
  (repeat' first | with_reducible rfl | exact (show Ch.base _ = _ from rfl) | ((try simp only [toI, inI, List.length_nil] at *); omega) | exact trivial | refine ⟨?_, ?_⟩ | refine ⟨?_⟩ | intro _)
  all_goals rfl
 rintro ⟨i, σ, pg, Q, a1, ad1, e1, a2, ad2, e2⟩ hJ
 have hJ : i ≤ n ∧ Q.length = i ∧ Shut σ0 pg0 E r h x ls (cutA k.len n i) σ pg Q := hJ
 obtain ⟨hi, hQ, hS⟩ := hJ
 cbv
 refine ⟨fun hc => ?_, fun hc => ?_⟩
 ·replace hc := toI_lt hc
  obtain ⟨g1, g2⟩ := cutA_step (i := i) (c := least h) c1 c2 hcn
  have hl1 : 1 ≤ least h := by unfold least; split <;> omega
  have g3 := cutA_le (m := k.len) (show i + 1 ≤ n by omega) c1
  have m1 : toI i * toI k.len = toI (i * k.len) := by simp only [toI]; exact (Int.natCast_mul i k.len).symm
  have m2 : (toI i + 1) * toI k.len = toI ((i + 1) * k.len) := by simp only [toI]; rw [Int.natCast_mul]; rfl
  have m3 : i * k.len ≤ 100000 * 100000 := Nat.mul_le_mul (by omega) (by omega)
  have m4 : (i + 1) * k.len ≤ 100000 * 100000 := Nat.mul_le_mul (by omega) (by omega)
  have dd : ∀ j, (toI (j * k.len)).tdiv (toI n) = toI (cutA k.len n j) := fun j => by
   unfold cutA
   simp only [toI]
   rw [Int.tdiv_eq_ediv_of_nonneg (by omega)]
   exact (Int.natCast_ediv _ _).symm
  have d1 := dd i
  have d2 := dd (i + 1)
  obtain ⟨A, hA⟩ : ∃ A, cutA k.len n i = A := ⟨_, rfl⟩
  obtain ⟨B, hB⟩ : ∃ B, cutA k.len n (i + 1) = B := ⟨_, rfl⟩
  rw [hA] at d1 g1 g2 hS
  rw [hB] at d2 g1 g2 g3
  obtain ⟨M1, hM1⟩ : ∃ M1, i * k.len = M1 := ⟨_, rfl⟩
  obtain ⟨M2, hM2⟩ : ∃ M2, (i + 1) * k.len = M2 := ⟨_, rfl⟩
  rw [hM1] at m1 m3 d1
  rw [hM2] at m2 m4 d2
  cbv
  rw [m1]
  refine VC.mk rf ?_
  cbv
  rw [d1]
  refine VC.mk rf ?_
  cbv
  refine .mk rf ?_
  cbv
  rw [m2]
  refine VC.mk rf ?_
  cbv
  rw [d2]
  refine VC.mk rf ?_
  cbv
  obtain ⟨hIy, hnx⟩ := hS.next hN (by omega) (by omega) g1
  obtain ⟨y, hy⟩ : ∃ y, y = x.part A B := ⟨_, rfl⟩
  rw [← hy] at hIy hnx
  have hyk : y.keys.length = B - A := by rw [hy]; show (subl x.keys A (B - A)).length = _; rw [subl_length _ _ _ (by rw [hN.keys, List.length_map]; omega)]
  have hyt : y.tag = tag := by rw [hy]; show x.tag = tag; rw [hx]; rfl
  have hNy := hN.part A B
  rw [← hy] at hNy
  have hsz : mostE σ tag = fit := by rw [← hfit]; unfold mostE spRoom; rw [hS.step.size]
  have hpo : PageOk σ.size σ.blocks y.page := page_ok hIy (by rcases hNy.kind with h | h; exact .inl h; exact .inr ⟨h.1, h.2.1⟩) (by rw [hyk, hyt, hsz]; omega)
  have hRm : Room σ (n + 1 - i) := Room.step (by rw [hQ, show i + (n + 1 - i) = n + 1 by omega]; exact hR) hS.step
  have hr1 := hRm.fr
  have hr2 := hRm.pend
  have hgy : ∀ (p1 p2 : Option Addr) (x1 x2 : Nat), gNd tag ⟨p1, k.off + A, B - A, x1, k.ad, k.N, k.sp, k.l⟩ ⟨none, 0, 0, 0, none, 0, 0, []⟩ ⟨p2, d.off + A, B - A, x2, d.ad, d.N, d.sp, d.l⟩ = y := by
   intro p1 p2 x1 x2
   rw [hy, hx]
   unfold gNd Nd.part
   rw [subl_subl k.l _ _ _ _ (by omega), subl_subl d.l _ _ _ _ (by omega), h3]
   simp [subl]
  have hput := fun (p1 p2 : Option Addr) (x1 x2 : Nat) => put_kids b db tag (B - A) σ pg (Q.map (·.1) ++ (x.kids.drop B ++ E)) ⟨p1, k.off + A, B - A, x1, k.ad, k.N, k.sp, k.l⟩ ⟨none, 0, 0, 0, none, 0, 0, []⟩ ⟨p2, d.off + A, B - A, x2, d.ad, d.N, d.sp, d.l⟩
   ht4 (by show k.off + A + (B - A) ≤ k.N; omega) hkl (by show d.off + A + (B - A) ≤ d.N; omega) hdl rfl rfl rfl (by omega) (by rw [hgy]; exact hIy) (by rw [hgy]; exact hpo) (by omega) hRm.gen (by omega)
  simp only [hgy] at hput
  have hky : k.l.getD (k.off + A + (0 : Int).toNat) 0 = hd (subl ls A (B - A)).flatten := by
   rw [hd_flatten hN.ne (by omega) (by omega), ← hN.keys, hx]
   show _ = (subl k.l k.off k.len).getD A 0
   unfold subl
   rw [List.getD_eq_getElem?_getD, List.getD_eq_getElem?_getD, List.getElem?_take, if_pos (by omega), List.getElem?_drop]
   rfl
  obtain ⟨K, hK⟩ : ∃ K, hd (subl ls A (B - A)).flatten = K := ⟨_, rfl⟩
  rw [hK] at hky
  clear hgy hpo hIy hNy
  refine AND2.mk ?_ ?_
  ·cbv
   refine cP hΓ (part_kids tag A B ht4 k v d (by omega) (by omega) (by omega) (by omega) (by omega) hk hd0) [1, 2, 3] ?_
   rintro x hp' ⟨p1, p2, x1, x2, rfl, rfl⟩
   refine ⟨rfl, ?_⟩
   cbv
   intro yb
   cbv
   refine callP_nil [.nat .u64] (args' := [.agg [.int .u8 fun _ => toI tag, .sl 1 (fun _ => p1) (fun _ => k.off + A) (fun _ => B - A) (fun _ => x1), .sl 8 (fun _ => none) (fun _ => 0) (fun _ => 0) (fun _ => 0), .sl 3 (fun _ => p2) (fun _ => d.off + A) (fun _ => B - A) (fun _ => x2)], .pt fun _ => ⟨b, 0, none⟩]) rfl (by cbv; exact rf) ?_
   refine cP hΓ (hput p1 p2 x1 x2) [0, 1, 8, 3] ?_
   rintro x hp' ⟨m', σ', pg', rfl, rfl, q1, q2, q3, q4⟩
   refine ⟨rfl, ?_⟩
   cbv
   refine .no (neF rfl) ?_
   cbv
   refine VC.mk rf ?_
   cbv
   refine VC.mk rf ?_
   cbv
   rw [hky]
   refine VC.mk ⟨rf, trivial⟩ fun b5 => ?_
   cbv
   refine .any (VC.mk rf fun a3 a4 e3 hx3 => ?_)
   cbv
   refine VC.mk ⟨rf, trivial⟩ fun b6 => ?_
   cbv
   refine .any (VC.mk rf fun a5 a6 e5 hx5 => ?_)
   cbv
   refine .mk rf ?_
   cbv
   have hnx2 := hnx m' σ' pg' q1 q2 q3 q4
   obtain ⟨Q2, hQ2⟩ : ∃ Q2, Q2 = Q ++ [(m', (subl ls A (B - A)).flatten)] := ⟨_, rfl⟩
   rw [← hQ2] at hnx2
   have hQk : (Q2.map fun q => hd q.2) = (Q.map fun q => hd q.2) ++ [K] := by rw [hQ2, List.map_append, ← hK]; rfl
   have hQp : (Q2.map fun q => q.1) = (Q.map fun q => q.1) ++ [m'] := by rw [hQ2, List.map_append]; rfl
   refine ⟨(i + 1, σ', pg', Q2, a4, a3, e3, a6, a5, e5), ⟨by omega, by rw [hQ2, List.length_append, hQ]; rfl, by rw [hB]; exact hnx2⟩, show n - (i + 1) < n - i by omega, sub2 [0, 1, 2, 3, 4, 10, 12] 4 hb rfl rfl rfl rfl rfl rfl rfl rfl ?_⟩
   cbv
   (repeat' first | with_reducible rfl | exact (show Ch.base _ = _ from rfl) | ((try simp only [toI, inI, List.length_nil] at *); omega) | exact trivial | refine ⟨?_, ?_⟩ | refine ⟨?_⟩ | intro _)
   ·rw [hQk, toI_toNat, List.drop_zero, List.take_of_length_le (by rw [List.length_map]; omega)]
    rfl
   ·rw [hQp, toI_toNat, List.drop_zero, List.take_of_length_le (by rw [List.length_map]; omega)]
    rfl
  ·cbv
   intro yb
   cbv
   repeat (refine VC.mk (by first | rfl | exact rf) ?_; cbv)
   refine cP hΓ (part_kids tag A B ht4 k v d (by omega) (by omega) (by omega) (by omega) (by omega) hk hd0) [1, 2, 3] ?_
   rintro x hp' ⟨p1, p2, x1, x2, rfl, rfl⟩
   refine ⟨rfl, ?_⟩
   cbv
   refine callP_nil [.nat .u64] (args' := [.agg [.int .u8 fun _ => toI tag, .sl 1 (fun _ => p1) (fun _ => k.off + A) (fun _ => B - A) (fun _ => x1), .sl 8 (fun _ => none) (fun _ => 0) (fun _ => 0) (fun _ => 0), .sl 3 (fun _ => p2) (fun _ => d.off + A) (fun _ => B - A) (fun _ => x2)], .pt fun _ => ⟨b, 0, none⟩]) rfl (by cbv; exact rf) ?_
   refine cP hΓ (hput p1 p2 x1 x2) [0, 1, 8, 3] ?_
   rintro x hp' ⟨m', σ', pg', rfl, rfl, q1, q2, q3, q4⟩
   refine ⟨rfl, ?_⟩
   cbv
   refine .no (neF rfl) ?_
   cbv
   refine VC.mk rf ?_
   cbv
   refine VC.mk rf ?_
   cbv
   rw [hky]
   refine VC.mk ⟨rf, trivial⟩ fun b5 => ?_
   cbv
   refine .any (VC.mk rf fun a3 a4 e3 hx3 => ?_)
   cbv
   refine VC.mk ⟨rf, trivial⟩ fun b6 => ?_
   cbv
   refine .any (VC.mk rf fun a5 a6 e5 hx5 => ?_)
   cbv
   refine .mk rf ?_
   cbv
   have hnx2 := hnx m' σ' pg' q1 q2 q3 q4
   obtain ⟨Q2, hQ2⟩ : ∃ Q2, Q2 = Q ++ [(m', (subl ls A (B - A)).flatten)] := ⟨_, rfl⟩
   rw [← hQ2] at hnx2
   have hQk : (Q2.map fun q => hd q.2) = (Q.map fun q => hd q.2) ++ [K] := by rw [hQ2, List.map_append, ← hK]; rfl
   have hQp : (Q2.map fun q => q.1) = (Q.map fun q => q.1) ++ [m'] := by rw [hQ2, List.map_append]; rfl
   refine ⟨(i + 1, σ', pg', Q2, a4, a3, e3, a6, a5, e5), ⟨by omega, by rw [hQ2, List.length_append, hQ]; rfl, by rw [hB]; exact hnx2⟩, show n - (i + 1) < n - i by omega, sub2 [0, 1, 2, 3, 4, 10, 12] 4 hb rfl rfl rfl rfl rfl rfl rfl rfl ?_⟩
   cbv
   (repeat' first | with_reducible rfl | exact (show Ch.base _ = _ from rfl) | ((try simp only [toI, inI, List.length_nil] at *); omega) | exact trivial | refine ⟨?_, ?_⟩ | refine ⟨?_⟩ | intro _)
   ·rw [hQk, toI_toNat, List.drop_zero, List.take_of_length_le (by rw [List.length_map]; omega)]
    rfl
   ·rw [hQp, toI_toNat, List.drop_zero, List.take_of_length_le (by rw [List.length_map]; omega)]
    rfl
 ·replace hc := toI_nlt hc
  have hin : i = n := by omega
  subst hin
  rw [cutA_end _ _ c1] at hS
  cbv
  refine Cl.by (v' := .tup [.sl 4 (fun _ => a1) (fun _ => 0) (fun _ => i) (fun _ => e1), .sl 5 (fun _ => a2) (fun _ => 0) (fun _ => i) (fun _ => e2), .int .i64 fun _ => 0])
   (hp' := appL (psL b db σ k v d) [.arr ad1 (fun _ => i) (fun _ => e1) [.nat .u64 fun _ => Q.map fun q => hd q.2] true, .arr ad2 (fun _ => i) (fun _ => e2) [.nat .u32 fun _ => Q.map fun q => q.1] true]) [.one 0, .one 1, .one 2, .one 3, .one 5, .one 6] 4 hb rfl rfl (nodup_of rfl) rfl ?_ rfl ?_
   ⟨σ, pg, Q, a1, ad1, a2, ad2, e1, e2, rfl, rfl, by rw [hls]; exact hS, hQ⟩
  ·cbv
   exact rf
  ·cbv
   exact rf
end Go.Proofs.YtfoffehokhkohaaGreat
