/- Part 19 of what is proved in the last text (packed by a program of mine). -/
import Derived.Test.YtfoffehokhkohaaGreatK11
import Derived.Test.YtfoffehokhkohaaGreatK12
import Derived.Test.YtfoffehokhkohaaGreatK13
import Derived.Test.YtfoffehokhkohaaGreatK18
set_option linter.all false
set_option maxRecDepth 20000
namespace Go.Proofs.YtfoffehokhkohaaGreat
open Go
def pageD (p : Page) : Bytes := leB p.kids.length 2 ++ (p.kids.flatMap (leB · 4) ++ p.data)
def pageB (size gen : Nat) (p : Page) : Bytes := frameB size p.tag gen (pageD p)
structure PageOk (size blocks : Nat) (p : Page) : Prop where
 t3 : 3 ≤ p.tag
 t : p.tag < 256
 k : p.kids.length < 65536
 fits : 2 + 4 * p.kids.length + p.data.length ≤ size - 16
 kid : ∀ n ∈ p.kids, 2 ≤ n ∧ n < blocks
theorem pageD_length (p : Page) : (pageD p).length = 2 + (4 * p.kids.length + p.data.length) := by
 simp only [pageD, List.length_append, leB_length, flatMap_leB_length]
theorem pageD_len (p : Page) (h : p.kids.length < 65536) : ofLE (subl (pageD p) 0 2) = p.kids.length := by
 have := subl_app [] (leB p.kids.length 2) (p.kids.flatMap (leB · 4) ++ p.data) 0 2 rfl (by simp)
 rw [List.nil_append] at this
 rw [pageD, this, ofLE_leB]
 exact Nat.mod_eq_of_lt h
theorem pageD_kid (p : Page) (i : Nat) (h : i < p.kids.length) (hk : p.kids[i] < 4294967296) : ofLE (subl (pageD p) (2 + 4 * i) 4) = p.kids[i] := by
 have e : p.kids.flatMap (leB · 4) = (p.kids.take i).flatMap (leB · 4) ++ (leB p.kids[i] 4 ++ (p.kids.drop (i + 1)).flatMap (leB · 4)) := by
  have h1 : p.kids = p.kids.take i ++ (p.kids[i] :: p.kids.drop (i + 1)) := by rw [List.getElem_cons_drop, List.take_append_drop]
  have h2 : p.kids.flatMap (leB · 4) = (p.kids.take i ++ (p.kids[i] :: p.kids.drop (i + 1))).flatMap (leB · 4) := congrArg (fun l : List Nat => l.flatMap (leB · 4)) h1
  rw [h2, List.flatMap_append, List.flatMap_cons]
 have e2 : pageD p = (leB p.kids.length 2 ++ (p.kids.take i).flatMap (leB · 4)) ++ (leB p.kids[i] 4 ++ ((p.kids.drop (i + 1)).flatMap (leB · 4) ++ p.data)) := by
  rw [pageD, e]; simp
 rw [e2, subl_app _ (leB p.kids[i] 4) _ (2 + 4 * i) 4 (by rw [List.length_append, leB_length, flatMap_leB_length, List.length_take]; omega) (by simp), ofLE_leB]
 exact Nat.mod_eq_of_lt hk
theorem pageD_data (p : Page) : subl (pageD p) (2 + 4 * p.kids.length) p.data.length = p.data := by
 have := subl_app (leB p.kids.length 2 ++ p.kids.flatMap (leB · 4)) p.data [] (2 + 4 * p.kids.length) p.data.length (by rw [List.length_append, leB_length, flatMap_leB_length]) rfl
 rw [List.append_nil, List.append_assoc] at this
 exact this
theorem space_page (b db g : Nat) (σ : Sp) (q : SpQ) (p : Page) (h : SpOk σ) (hp : PageOk σ.size σ.blocks p) (hg : g < 18446744073709551616) :
  FnSpec Tryz.prog 111 (spL b db σ q) [.bp 0 0, .str fun _ => pageB σ.size g p]
   (fun v hp => ∃ (a ad : Option Addr) (e : Nat), v = .tup [.agg [.int .u8 fun _ => toI p.tag, .sl 5 (fun _ => a) (fun _ => 0) (fun _ => p.kids.length) (fun _ => e), .str fun _ => p.data], .int .i64 fun _ => 0] ∧
    hp = appL (spL b db σ q) [.arr ad (fun _ => p.kids.length) (fun _ => e) [.nat .u32 fun _ => p.kids] true]) := by
 obtain ⟨t3, t, hk, fits, kid⟩ := hp
 have geo := h.geo
 have g1 := geo.h1
 have g2 := geo.h2
 have g5 := geo.h5
 have hDl := pageD_length p
 have hD1 := pageD_len p hk
 have hD2 := pageD_kid p
 have hD3 := pageD_data p
 have hfg := frame_Get σ.size p.tag g (pageD p) ⟨g1, g2, geo.h3, by omega, by omega⟩ t hg (by omega)
 revert hDl hD1 hD2 hD3 hfg
 unfold pageB
 generalize hD : pageD p = D
 generalize hB : frameB σ.size p.tag g D = B
 intro hDl hD1 hD2 hD3 hfg
 refine spec_cl mixed F111 rfl rfl rfl (fun Γ hΓ hb => ?_)
 have wb : wr .u64 (toI σ.blocks) = toI σ.blocks := wr_u64 om om
 cbv
 intro b5
 cbv
 refine callP_by hΓ hfg [] (by simp) trivial rfl ?_
 rintro x hp' ⟨rfl, rfl⟩
 refine ⟨rfl, ?_⟩
 cbv
 intro b6
 cbv
 refine .no (neF rfl) ?_
 cbv
 refine .no (decide_eq_false om) ?_
 cbv
 intro b7 e7
 cbv
 refine callP_by hΓ (octet_New (some ⟨b7, 0, none⟩) (some ⟨b7, 0, none⟩) D.length e7 0 D.length e7 D rfl (by omega) (by omega)) [7] (by simp) ⟨⟨_, rfl, .inr ⟨rfl, rfl⟩⟩, trivial⟩ rfl ?_
 rintro x hp' ⟨a8, ad8, e8, b9, rfl, rfl⟩
 refine ⟨rfl, ?_⟩
 have hDD : subl D 0 D.length = D := by simp [subl]
 generalize hD' : subl D 0 D.length = D' at hDD
 have hD'l : D'.length = D.length := by rw [hDD]
 cbv
 refine callP_by hΓ (octet_Number b9 267 ad8 a8 D.length e8 0 D.length e8 2 D' hD'l (by omega) (by omega) (by omega) (by omega) (by omega)) [9, 8] (by simp) ⟨⟨_, rfl, .inl rfl⟩, ⟨_, rfl, .inl rfl⟩, trivial⟩ rfl ?_
 rintro x hp' ⟨a10, rfl, rfl⟩
 refine ⟨rfl, ?_⟩
 cbv
 refine .no (neF rfl) ?_
 cbv
 have hKn : ofLE (subl D' 0 2) = p.kids.length := by rw [hDD]; exact hD1
 refine loopJ (α := Nat × Option Addr × Option Addr × Nat × Option Addr) (fun (i, _, _, _, _) => i ≤ p.kids.length) (fun (i, a2, ad2, e2, a1) => ⟨86, [(0, .bp 0 0), (4, .bp 5 0), (7, .bp 9 0), (40, .int .u64 fun _ => toI p.kids.length), (41, .int .u64 fun _ => toI i)],
  [.box b q.ty [.pt fun _ => ⟨db, 0, none⟩, .int .u64 fun _ => toI σ.gen, .int .i64 fun _ => toI σ.size, .int .i64 fun _ => toI σ.blocks, .int .u32 fun _ => toI σ.root, .sl 1 (fun _ => q.a) (fun _ => 0) (fun _ => σ.sup.length) (fun _ => q.e), .int .i64 fun _ => toI σ.slot, .pt fun _ => ⟨q.hb, 0, none⟩, .pt fun _ => ⟨q.nb, 0, none⟩, .nilp] true, .arr q.ad (fun _ => σ.sup.length) (fun _ => q.e) [.nat .u32 fun _ => σ.sup] true, .res fun _ => CountsR q.hb σ.size σ.blocks σ.held, .res fun _ => CountsR q.nb σ.size σ.blocks σ.now, .res fun _ => DevR db σ.size σ.blocks σ.dur σ.pend, .box b5 43 [.int .u8 fun _ => toI p.tag, .sl 10 (fun _ => a2) (fun _ => 0) (fun _ => i) (fun _ => e2), .str fun _ => []] true, .gone (some ⟨b6, 0, none⟩) 1, .gone (some ⟨b7, 0, none⟩) 1, .arr ad8 (fun _ => D.length) (fun _ => e8) [.b8 fun _ => D'] true, .box b9 267 [.sl 8 (fun _ => a1) (fun _ => 2 + 4 * i) (fun _ => D.length - 2 - 4 * i) (fun _ => e8)] true, .arr ad2 (fun _ => i) (fun _ => e2) [.nat .u32 fun _ => p.kids.take i] true], []⟩) (fun (i, _, _, _, _) => p.kids.length - i) (0, none, none, 0, a10) (Nat.zero_le _) (Sub.nil [.nat .u32] (sub2 [0, 1, 2, 3, 4, 5, 6, 7, 8, 9, 10] 5 hb rfl rfl rfl rfl rfl rfl rfl rfl ?_)) ?_
 ·cbv
  (repeat' first | with_reducible rfl | exact (show Ch.base _ = _ from rfl) | ((try simp only [toI, inI, List.length_nil] at *); omega) | exact trivial | refine ⟨?_, ?_⟩ | refine ⟨?_⟩ | intro _)
  all_goals first | rfl | (rw [hKn])
 ·rintro ⟨i, a2, ad2, e2, a1⟩ hi
  have hi : i ≤ p.kids.length := hi
  cbv
  refine ⟨fun hc => ?_, fun hc => ?_⟩
  ·replace hc := toI_lt hc
   have hkm := kid _ (List.getElem_mem hc)
   have hki : ofLE (subl D' (2 + 4 * i) 4) = p.kids[i] := by rw [hDD]; exact hD2 i hc (by omega)
   have hnx : p.kids.take (i + 1) = p.kids.take i ++ [p.kids[i]] := by rw [List.take_add_one, List.getElem?_eq_getElem hc]; rfl
   generalize p.kids[i] = ki at hkm hki hnx
   have wki : wr .u32 (toI (ofLE (subl D' (2 + 4 * i) 4))) = toI ki := by rw [hki]; exact wr_u32 om om
   cbv
   refine callP_by hΓ (octet_Number b9 267 ad8 a1 D.length e8 (2 + 4 * i) (D.length - 2 - 4 * i) e8 4 D' hD'l (by omega) (by omega) (by omega) (by omega) (by omega)) [9, 8] (by simp) ⟨⟨_, rfl, .inl rfl⟩, ⟨_, rfl, .inl rfl⟩, trivial⟩ rfl ?_
   rintro x hp' ⟨a11, rfl, rfl⟩
   refine ⟨rfl, ?_⟩
   cbv
   refine .no (neF rfl) ?_
   cbv
   refine .no (decide_eq_false (by rw [hki]; exact om)) ?_
   cbv
   refine .no (decide_eq_false (by rw [hki, wb]; exact om)) ?_
   cbv
   refine ⟨⟨⟨by rw [wki]; exact om, trivial⟩, trivial⟩, fun b12 => ?_⟩
   cbv
   refine .any ⟨rf, fun a13 a14 e13 _ => ?_⟩
   cbv
   refine ⟨(i + 1, a14, a13, e13, a11), show i + 1 ≤ p.kids.length by omega, show p.kids.length - (i + 1) < p.kids.length - i by omega, sub2 [0, 1, 2, 3, 4, 5, 6, 7, 8, 9, 12] 5 hb rfl rfl rfl rfl rfl rfl rfl rfl ?_⟩
   cbv
   (repeat' first | with_reducible rfl | exact (show Ch.base _ = _ from rfl) | ((try simp only [toI, inI, List.length_nil] at *); omega) | exact trivial | refine ⟨?_, ?_⟩ | refine ⟨?_⟩ | intro _)
   ·rw [List.drop_zero, List.take_of_length_le (by rw [List.length_take]; omega)]
    show List.take i p.kids ++ [(wr .u32 (toI (ofLE (subl D' (2 + 4 * i) 4)))).toNat] = List.take (i + 1) p.kids
    rw [wki, toI_toNat, hnx]
   ·show wr .u64 (toI i + 1) = toI (i + 1)
    rw [wr_u64 om om]
    exact om
  ·replace hc := toI_nlt hc
   have : i = p.kids.length := by omega
   subst this
   cbv
   refine callP_by hΓ (octet_Left b9 267 ad8 a1 D.length e8 (2 + 4 * p.kids.length) (D.length - 2 - 4 * p.kids.length) e8 D') [9, 8] (by simp) ⟨⟨_, rfl, .inl rfl⟩, ⟨_, rfl, .inl rfl⟩, trivial⟩ rfl ?_
   rintro x hp' ⟨rfl, rfl⟩
   refine ⟨rfl, ?_⟩
   cbv
   refine callP_by hΓ (octet_Bytes b9 267 ad8 a1 D.length e8 (2 + 4 * p.kids.length) (D.length - 2 - 4 * p.kids.length) e8 (D.length - 2 - 4 * p.kids.length) D' hD'l (by omega) (by omega) (by omega)) [9, 8] (by simp) ⟨⟨_, rfl, .inl rfl⟩, ⟨_, rfl, .inl rfl⟩, trivial⟩ rfl ?_
   rintro x hp' ⟨a11, a12, ad12, sp12, rfl, rfl⟩
   refine ⟨rfl, ?_⟩
   cbv
   refine ⟨rf, ?_⟩
   cbv
   have hdat : List.take (D.length - 2 - 4 * p.kids.length) (List.drop 0 (subl D' (2 + 4 * p.kids.length) (D.length - 2 - 4 * p.kids.length))) = p.data := by
    have e : D.length - 2 - 4 * p.kids.length = p.data.length := by omega
    rw [e, hDD, List.drop_zero, List.take_of_length_le, hD3]
    rw [subl_length D _ _ (by omega)]
    exact Nat.le_refl _
   refine Cl.by (v' := .tup [.agg [.int .u8 fun _ => toI p.tag, .sl 5 (fun _ => a2) (fun _ => 0) (fun _ => p.kids.length) (fun _ => e2), .str fun _ => p.data], .int .i64 fun _ => 0])
    (hp' := appL (spL b db σ q) [.arr ad2 (fun _ => p.kids.length) (fun _ => e2) [.nat .u32 fun _ => p.kids] true]) [.one 0, .one 1, .one 2, .one 3, .one 4, .one 10] 5 hb rfl rfl (nodup_of rfl) rfl ?_ rfl ?_ ⟨a2, ad2, e2, rfl, rfl⟩
   ·cbv
    (repeat' first | with_reducible rfl | exact (show Ch.base _ = _ from rfl) | ((try simp only [toI, inI, List.length_nil] at *); omega) | exact trivial | refine ⟨?_, ?_⟩ | refine ⟨?_⟩ | intro _)
    all_goals rw [List.take_length]
   ·cbv
    (repeat' first | with_reducible rfl | exact (show Ch.base _ = _ from rfl) | ((try simp only [toI, inI, List.length_nil] at *); omega) | exact trivial | refine ⟨?_, ?_⟩ | refine ⟨?_⟩ | intro _)
    all_goals exact hdat
def SpHas (σ : Sp) (n : Nat) (p : Page) : Prop := PageOk σ.size σ.blocks p ∧ ∃ g, g < 18446744073709551616 ∧ devCur σ.dur σ.pend n = pageB σ.size g p
theorem space_Get (b db n : Nat) (σ : Sp) (q : SpQ) (p : Page) (h : SpOk σ) (hn : spAsked σ n = true) (h0 : σ.now.getD n 0 ≠ 0) (hp : SpHas σ n p) :
  FnSpec Tryz.prog 59 (spL b db σ q) [.bp 0 0, .int .u32 fun _ => toI n]
   (fun v hp => ∃ (a ad : Option Addr) (e : Nat), v = .tup [.agg [.int .u8 fun _ => toI p.tag, .sl 5 (fun _ => a) (fun _ => 0) (fun _ => p.kids.length) (fun _ => e), .str fun _ => p.data], .int .i64 fun _ => 0] ∧
    hp = appL (spL b db σ q) [.arr ad (fun _ => p.kids.length) (fun _ => e) [.nat .u32 fun _ => p.kids] true]) := by
 obtain ⟨hp, g, hg, hcur⟩ := hp
 have hnb : n < σ.blocks := by
  unfold spAsked at hn
  simp only [Bool.and_eq_true] at hn
  exact of_decide_eq_true hn.2.1
 have hb4 := h.b4
 have hpl := h.pl
 have hdr := dev_Read db σ.size σ.blocks n σ.dur σ.pend hnb hb4 h.dl (by omega)
 have hsp := space_page b db g σ q p h hp hg
 rw [hcur] at hdr
 revert hdr hsp
 generalize pageB σ.size g p = B
 intro hdr hsp
 refine spec_cl mixed F59 rfl rfl rfl (fun Γ hΓ hb => ?_)
 have wn : wr .i64 (toI n) = toI n := wr_i64 om
 cbv
 intro b5
 cbv
 refine callP_by hΓ (space_asked b db n σ q (by omega) h) [0, 1, 2, 3, 4] (by simp) ⟨⟨_, rfl, .inl rfl⟩, ⟨_, rfl, .inl rfl⟩, ⟨_, rfl, .inl rfl⟩, ⟨_, rfl, .inl rfl⟩, ⟨_, rfl, .inl rfl⟩, trivial⟩ rfl ?_
 rintro x hp' ⟨rfl, rfl⟩
 refine ⟨rfl, ?_⟩
 cbv
 refine .no (by show (!spAsked σ n) = false; rw [hn]; rfl) ?_
 cbv
 refine callP_by hΓ (counts_Get q.nb σ.size σ.blocks σ.now n (by omega) h.now) [3] (by simp) ⟨⟨_, rfl, .inl rfl⟩, trivial⟩ rfl ?_
 rintro x hp' ⟨rfl, rfl⟩
 refine ⟨rfl, ?_⟩
 cbv
 refine .no (eqF om) ?_
 cbv
 refine callP_eq (args' := [.pt fun _ => ⟨db, 0, none⟩, .int .i64 fun _ => toI n]) (hp' := appL (spL b db σ q) [.box b5 43 [.int .u8 fun _ => 0, .nils, .str fun _ => []] true]) [.one 0, .one 1, .one 2, .one 3, .one 4, .one 5] 5 hb rfl rfl (nodup_of rfl) rfl rfl rfl ?_ ?_
 ·cbv
  exact rf
 refine callP_by hΓ hdr [4] (by simp) ⟨⟨_, rfl, .inl rfl⟩, trivial⟩ rfl ?_
 rintro x hp' ⟨rfl, rfl⟩
 refine ⟨rfl, ?_⟩
 cbv
 refine .no (neF rfl) ?_
 cbv
 refine callP_by hΓ hsp [0, 1, 2, 3, 4] (by simp) ⟨⟨_, rfl, .inl rfl⟩, ⟨_, rfl, .inl rfl⟩, ⟨_, rfl, .inl rfl⟩, ⟨_, rfl, .inl rfl⟩, ⟨_, rfl, .inl rfl⟩, trivial⟩ rfl ?_
 rintro x hp' ⟨a, ad, e, rfl, rfl⟩
 refine ⟨rfl, ?_⟩
 cbv
 refine Cl.by (v' := .tup [.agg [.int .u8 fun _ => toI p.tag, .sl 5 (fun _ => a) (fun _ => 0) (fun _ => p.kids.length) (fun _ => e), .str fun _ => p.data], .int .i64 fun _ => 0])
  (hp' := appL (spL b db σ q) [.arr ad (fun _ => p.kids.length) (fun _ => e) [.nat .u32 fun _ => p.kids] true]) [.one 0, .one 1, .one 2, .one 3, .one 4, .one 6] 5 hb rfl rfl (nodup_of rfl) rfl ?_ rfl ?_ ⟨a, ad, e, rfl, rfl⟩
 ·cbv
  exact rf
 ·cbv
  exact rf
end Go.Proofs.YtfoffehokhkohaaGreat
set_option maxRecDepth 20000
namespace Go.Proofs.YtfoffehokhkohaaGreat
open Go
def spV (b db bs : Nat) (σ : Sp) (q : SpQ) : List Ch := appL (spL b db σ q) [.box bs 24 [.bp 0 0] true]
theorem space_take1 (b db bs bm : Nat) (σ : Sp) (q : SpQ) :
  FnSpecD Tryz.prog 107 (appL (spV b db bs σ q) [.box bm 41 [.nils] true]) [.bp 6 0, .bp 5 0] (fun _ hp => hp = appL (spV b db bs σ q) [.box bm 41 [.nils] true]) := by
 refine specD_cl mixed F107 rfl rfl rfl (fun Γ hΓ hb => ?_)
 cbv
 refine loop1 ?_
 cbv
 refine .no (decide_eq_false (by omega)) ?_
 cbv
 exact Cl.same rfl rfl
theorem space_take (b db i : Nat) (σ : Sp) (q : SpQ) (h : SpOk σ) (ht : cTake σ.now σ.held = some i) :
  FnSpec Tryz.prog 54 (spL b db σ q) [.bp 0 0] (fun v hp => v = .tup [.int .u32 fun _ => toI i, .int .i64 fun _ => 0] ∧ hp = spL b db { σ with now := σ.now.set i 1 } q) := by
 have htk := counts_Take q.nb q.hb σ.size σ.blocks σ.now σ.held h.now h.held
 rw [ht] at htk
 generalize hnow : σ.now.set i 1 = now' at htk
 refine spec_cl mixed F54 rfl rfl rfl (fun Γ hΓ hb => ?_)
 cbv
 intro b5
 cbv
 intro b6
 cbv
 refine loop1 ?_
 cbv
 refine callP_by hΓ htk [3, 2] (by simp) ⟨⟨_, rfl, .inl rfl⟩, ⟨_, rfl, .inl rfl⟩, trivial⟩ rfl ?_
 rintro x hp' ⟨rfl, rfl⟩
 rw [hnow]
 refine ⟨rfl, ?_⟩
 cbv
 refine .no (neF rfl) ?_
 cbv
 refine callP_by hΓ (counts_Get0 i) [] (by simp) trivial rfl ?_
 rintro x hp' ⟨rfl, rfl⟩
 refine ⟨rfl, ?_⟩
 cbv
 refine .yes (eqT rfl) ?_
 cbv
 refine callD_by hΓ (space_take1 b db b5 b6 { σ with now := now' } q) [0, 1, 2, 3, 4, 5, 6] (by simp) ⟨⟨_, rfl, .inl rfl⟩, ⟨_, rfl, .inl rfl⟩, ⟨_, rfl, .inl rfl⟩, ⟨_, rfl, .inl rfl⟩, ⟨_, rfl, .inl rfl⟩, ⟨_, rfl, .inl rfl⟩, ⟨_, rfl, .inl rfl⟩, trivial⟩ rfl ?_
 rintro x hp' rfl
 refine ⟨rfl, ?_⟩
 cbv
 exact Cl.tk 5 hb rfl rfl rfl ⟨rfl, rfl⟩
def spFr (σ : Sp) (m : Nat) : List Nat := (List.range m).filter fun n => decide (2 ≤ n) && (σ.now.getD n 0 + σ.held.getD n 0 == 0)
theorem spFr_succ (σ : Sp) (m : Nat) : spFr σ (m + 1) = spFr σ m ++ (if (decide (2 ≤ m) && (σ.now.getD m 0 + σ.held.getD m 0 == 0)) = true then [m] else []) := by
 unfold spFr
 rw [List.range_succ, List.filter_append, List.filter_cons, List.filter_nil]
theorem spFr_le (σ : Sp) (m k : Nat) : spFr σ (m + k) = spFr σ m ++ (spFr σ (m + k)).drop (spFr σ m).length := by
 have : ∃ r, spFr σ (m + k) = spFr σ m ++ r := by
  induction k with
  | zero => exact ⟨[], by simp⟩
  | succ k ih =>
   obtain ⟨r, hr⟩ := ih
   rw [← Nat.add_assoc, spFr_succ, hr, List.append_assoc]
   exact ⟨_, rfl⟩
 obtain ⟨r, hr⟩ := this
 rw [hr, List.drop_left]
theorem spFr_length (σ : Sp) (m : Nat) : (spFr σ m).length ≤ m := by
 unfold spFr
 exact Nat.le_trans (List.length_filter_le _ _) (by simp)
theorem space_free1 (b db bs : Nat) (σ : Sp) (q : SpQ) (h : SpOk σ) :
  ISpec Tryz.prog 115 (spV b db bs σ q) [] [.bp 5 0] ((spFr σ σ.blocks).map fun n => [SV.int .u32 fun _ => toI n]) := by
 have hb4 := h.b4
 refine ⟨let ⟨fn, c, h1, h2, h3, _⟩ := F115.h; ⟨fn, c, h1, h2, h3⟩, rfl, ?_, rfl, rfl, fun lo Y Z hY => ?_⟩
 ·intro xs hx
  obtain ⟨k, _, rfl⟩ := List.mem_map.1 hx
  rfl
 refine spec_cl mixed F115 rfl rfl rfl (fun Γ hΓ hb => ?_)
 cbv
 refine loopJ (α := Nat × Nat) (fun (n, fl) => 2 ≤ n ∧ n ≤ σ.blocks ∧ fl = (spFr σ n).length) (fun (n, fl) => ⟨42, [(0, .fn (.yield lo) [] []), (1, .bp 5 0), (3, .int .u32 fun _ => toI n)], appL (spV b db bs σ q) [.res fun _ => Y fl], []⟩) (fun (n, _) => σ.blocks - n) (2, 0) ⟨by omega, by have := h.geo.h4; omega, rfl⟩ (sub2 [0, 1, 2, 3, 4, 5, 6] 7 hb rfl rfl rfl rfl rfl rfl rfl rfl ?_) ?_
 ·cbv
  exact rf
 ·rintro ⟨n, fl⟩ hJ
  have hJ : 2 ≤ n ∧ n ≤ σ.blocks ∧ fl = (spFr σ n).length := hJ
  have hn2 := hJ.1
  have hn := hJ.2.1
  have hfl := hJ.2.2
  have wn : wr .i64 (toI n) = toI n := wr_i64 om
  cbv
  refine ⟨fun hc => ?_, fun hc => ?_⟩
  ·have hc := of_decide_eq_true hc
   have hc : n < σ.blocks := by rw [wn] at hc; exact om
   have hx1 := h.now.getD n
   have hx2 := h.held.getD n
   cbv
   refine callP_by hΓ (counts_Get q.nb σ.size σ.blocks σ.now n (by omega) h.now) [3] (by simp) ⟨⟨_, rfl, .inl rfl⟩, trivial⟩ rfl ?_
   rintro x hp' ⟨rfl, rfl⟩
   refine ⟨rfl, ?_⟩
   cbv
   refine ⟨rfl, ?_⟩
   cbv
   refine ⟨rfl, ?_⟩
   cbv
   refine ⟨rfl, ?_⟩
   cbv
   refine ⟨rfl, ?_⟩
   cbv
   refine callP_by hΓ (counts_Get q.hb σ.size σ.blocks σ.held n (by omega) h.held) [2] (by simp) ⟨⟨_, rfl, .inl rfl⟩, trivial⟩ rfl ?_
   rintro x hp' ⟨rfl, rfl⟩
   refine ⟨rfl, ?_⟩
   cbv
   refine ⟨rfl, ?_⟩
   cbv
   refine ⟨rfl, ?_⟩
   cbv
   refine .mk rf ?_
   cbv
   refine callP_by hΓ (counts_Get0 n) [] (by simp) trivial rfl ?_
   rintro x hp' ⟨rfl, rfl⟩
   refine ⟨rfl, ?_⟩
   cbv
   refine .mk rf ?_
   cbv
   have hsu := spFr_succ σ n
   refine ⟨fun h1 => ?_, fun h1 => ?_⟩
   ·have h1 : toI (σ.now.getD n 0) + toI (σ.held.getD n 0) + 0 = 0 := by simpa using h1
    have hcond : (decide (2 ≤ n) && (σ.now.getD n 0 + σ.held.getD n 0 == 0)) = true := by
     rw [Bool.and_eq_true]
     exact ⟨decide_eq_true hn2, by have : σ.now.getD n 0 + σ.held.getD n 0 = 0 := by exact om
                                   rw [this]; rfl⟩
    rw [if_pos hcond] at hsu
    have hys : ((spFr σ σ.blocks).map fun n => [SV.int .u32 fun _ => toI n])[fl]? = some [SV.int .u32 fun _ => toI n] := by
     have e := spFr_le σ (n + 1) (σ.blocks - (n + 1))
     rw [show n + 1 + (σ.blocks - (n + 1)) = σ.blocks by omega, hsu, List.append_assoc] at e
     rw [List.getElem?_map, e, List.getElem?_append_right (by omega), hfl, Nat.sub_self]
     rfl
    have hfl2 : fl + 1 = (spFr σ (n + 1)).length := by rw [hsu, List.length_append, ← hfl]; rfl
    cbv
    refine callV_by hΓ (hY fl _ hys) [0, 1, 2, 3, 4, 5, 6] (by simp) ⟨⟨_, rfl, .inl rfl⟩, ⟨_, rfl, .inl rfl⟩, ⟨_, rfl, .inl rfl⟩, ⟨_, rfl, .inl rfl⟩, ⟨_, rfl, .inl rfl⟩, ⟨_, rfl, .inl rfl⟩, ⟨_, rfl, .inl rfl⟩, trivial⟩ rfl ?_
    intro x hp' hx
    rcases hx with ⟨hx1, hx2⟩ | ⟨hx1, hx2⟩
    ·subst hx1
     subst hx2
     refine ⟨rfl, ?_⟩
     cbv
     refine ⟨(n + 1, fl + 1), ⟨by omega, by omega, hfl2⟩, by show σ.blocks - (n + 1) < σ.blocks - n; omega, sub2 [0, 1, 2, 3, 4, 5, 6] 7 hb rfl rfl rfl rfl rfl rfl rfl rfl ?_⟩
     cbv
     (repeat' first | with_reducible rfl | exact (show Ch.base _ = _ from rfl) | ((try simp only [toI, inI, List.length_nil] at *); omega) | exact trivial | refine ⟨?_, ?_⟩ | refine ⟨?_⟩ | intro _)
     show wr .u32 (toI n + 1) = toI (n + 1)
     rw [wr_u32 om om]
     exact om
    ·subst hx1
     subst hx2
     refine ⟨rfl, ?_⟩
     cbv
     exact Cl.same rfl (.inr rfl)
   ·have h1 : ¬ toI (σ.now.getD n 0) + toI (σ.held.getD n 0) + 0 = 0 := by simpa using h1
    have hcond : ¬ (decide (2 ≤ n) && (σ.now.getD n 0 + σ.held.getD n 0 == 0)) = true := by
     rw [Bool.and_eq_true]
     intro hh
     have : σ.now.getD n 0 + σ.held.getD n 0 = 0 := by simpa using hh.2
     apply h1
     exact om
    rw [if_neg hcond, List.append_nil] at hsu
    have hfl2 : fl = (spFr σ (n + 1)).length := by rw [hsu, ← hfl]
    cbv
    refine ⟨(n + 1, fl), ⟨by omega, by omega, hfl2⟩, by show σ.blocks - (n + 1) < σ.blocks - n; omega, sub2 [0, 1, 2, 3, 4, 5, 6] 7 hb rfl rfl rfl rfl rfl rfl rfl rfl ?_⟩
    cbv
    (repeat' first | with_reducible rfl | exact (show Ch.base _ = _ from rfl) | ((try simp only [toI, inI, List.length_nil] at *); omega) | exact trivial | refine ⟨?_, ?_⟩ | refine ⟨?_⟩ | intro _)
    show wr .u32 (toI n + 1) = toI (n + 1)
    rw [wr_u32 om om]
    exact om
  ·have hc := of_decide_eq_false hc
   have hc : n = σ.blocks := by rw [wn] at hc; exact om
   have hfl3 : ((spFr σ σ.blocks).map fun n => [SV.int .u32 fun _ => toI n]).length = fl := by rw [List.length_map, hfl, hc]
   cbv
   refine Cl.same rfl (.inl ?_)
   rw [hfl3]
   rfl
theorem space_free (b db : Nat) (σ : Sp) (q : SpQ) :
  FnSpec Tryz.prog 67 (spL b db σ q) [.bp 0 0] (fun v hp => ∃ bs, v = .fn (.func 115) [] [.bp 5 0] ∧ hp = spV b db bs σ q) := by
 refine spec_of mixed F67 rfl rfl rfl (fun Γ hΓ hb => ?_)
 cbv
 intro bs
 cbv
 exact ⟨bs, rfl, rfl⟩
theorem space_Free (b db : Nat) (σ : Sp) (q : SpQ) (h : SpOk σ) :
  FnSpec Tryz.prog 29 (spL b db σ q) [.bp 0 0] (fun v hp => v = .int .i64 (fun _ => toI (spFr σ σ.blocks).length) ∧ hp = spL b db σ q) := by
 have hb4 := h.b4
 have hfl := spFr_length σ σ.blocks
 have hys : ((spFr σ σ.blocks).map fun n => [SV.int .u32 fun _ => toI n]).length = (spFr σ σ.blocks).length := List.length_map _
 have his := fun bs => space_free1 b db bs σ q h
 have hxs : ∀ xs ∈ ((spFr σ σ.blocks).map fun n => [SV.int .u32 fun _ => toI n]), ∃ n : Nat, xs = [.int .u32 fun _ => toI n] := by
  intro xs hx
  obtain ⟨n, _, rfl⟩ := List.mem_map.1 hx
  exact ⟨n, rfl⟩
 revert his hys hfl hxs
 generalize ((spFr σ σ.blocks).map fun n => [SV.int .u32 fun _ => toI n]) = ys
 generalize (spFr σ σ.blocks).length = fl
 intro hfl hys his hxs
 refine spec_cl mixed F29 rfl rfl rfl (fun Γ hΓ hb => ?_)
 cbv
 intro b5
 cbv
 refine callP_by hΓ (space_free b db σ q) [0, 1, 2, 3, 4] (by simp) ⟨⟨_, rfl, .inl rfl⟩, ⟨_, rfl, .inl rfl⟩, ⟨_, rfl, .inl rfl⟩, ⟨_, rfl, .inl rfl⟩, ⟨_, rfl, .inl rfl⟩, trivial⟩ rfl ?_
 rintro x hp' ⟨b6, rfl, rfl⟩
 refine ⟨rfl, ?_⟩
 cbv
 refine ⟨_, fun _ _ h => h, ?_⟩
 cbv
 refine RangeP0.to ?_
 refine ⟨[0, 1, 2, 3, 4, 6, 8, 5], spV b db b6 σ q, [.box b5 3 [.int .i64 fun _ => 0] true], [(2, .bp 7 0)], [], [.bp 5 0],
  by simp, rfl, rfl, ⟨rfl, trivial⟩, rfl, by simp, fun rd rr => ⟨⟨_, rfl, .inl rfl⟩, ⟨_, rfl, .inl rfl⟩, ⟨_, rfl, .inl rfl⟩, ⟨_, rfl, .inl rfl⟩, ⟨_, rfl, .inl rfl⟩, ⟨_, rfl, .inl rfl⟩, ⟨_, rfl, .inl rfl⟩, ⟨_, rfl, .inl rfl⟩, trivial⟩, ?_⟩
 refine ⟨Int, Empty, fun k q => q = toI k, fun q => [.box b5 3 [.int .i64 fun _ => q] true], fun e => e.elim, fun e => e.elim, ys, 0,
  hΓ ▸ his b6, ?_, rfl, rfl, fun q => ⟨rfl, rfl, [], rfl⟩, fun e => e.elim, ?_, ?_, fun e => e.elim⟩
 ·intro xs hx
  obtain ⟨n, rfl⟩ := hxs xs hx
  rfl
 ·intro k qq xs Γ' r1 r2 hk hq hΓ' hb'
  have hkl := (List.getElem?_eq_some_iff.1 hk).1
  obtain ⟨n, hn⟩ := hxs xs (List.mem_of_getElem? hk)
  subst hn
  have hq : qq = toI k := hq
  cbv
  refine ⟨⟨rfl⟩, ?_⟩
  cbv
  refine .mk (by rw [hq]; exact om) ?_
  cbv
  refine RoundTo.by [.box b5 3 [.int .i64 fun _ => qq + 1] true] [.one 0, .one 1, .one 2, .one 3, .one 4, .one 5, .one 6, .one 7] 7 hb' rfl rfl (nodup_of rfl) rfl ?_ ⟨_, by rw [hq]; exact om, rfl⟩
  cbv
  exact rf
 ·intro q' hq d rr r'
  refine ⟨rfl, ?_⟩
  have hq : q' = toI ys.length := hq
  rw [hys] at hq
  cbv
  refine ⟨rfl, ?_⟩
  cbv
  exact Cl.take 5 (.int .i64 fun _ => toI fl) hb rfl rfl ⟨hq⟩ rfl ⟨rfl, rfl⟩
end Go.Proofs.YtfoffehokhkohaaGreat
set_option maxRecDepth 20000
namespace Go.Proofs.YtfoffehokhkohaaGreat
open Go
theorem index_none (g : Nat) (b db bs N sp off len ext : Nat) (a ad : Option Addr) (l : List Nat) (σ : Sp) (q : SpQ) (hl : l.length = N) (h : off + len ≤ N) (hlen : len ≤ 1000000000)
  (hg : ∀ i, i < len → FnSpec Tryz.prog g (spV b db bs σ q) [.int .u32 fun _ => toI (l.getD (off + i) 0), .bp 5 0] (fun v hp => v = .ff ∧ hp = spV b db bs σ q)) :
  FnSpec Tryz.prog 104 (appL (spV b db bs σ q) [.arr ad (fun _ => N) (fun _ => sp) [.nat .u32 fun _ => l] false]) [.sl 6 (fun _ => a) (fun _ => off) (fun _ => len) (fun _ => ext), .fn (.func g) [] [.bp 5 0]]
   (fun v hp => v = .int .i64 (fun _ => -1) ∧ hp = appL (spV b db bs σ q) [.arr ad (fun _ => N) (fun _ => sp) [.nat .u32 fun _ => l] false]) := by
 refine spec_cl mixed F104 rfl rfl rfl (fun Γ hΓ hb => ?_)
 cbv
 refine loopJ (fun (i : Nat) => i ≤ len) (fun i => ⟨19, [(0, .sl 6 (fun _ => a) (fun _ => off) (fun _ => len) (fun _ => ext)), (1, .fn (.func g) [] [.bp 5 0]), (7, .int .i64 fun _ => toI len), (8, .int .i64 fun _ => toI i)], appL (spV b db bs σ q) [.arr ad (fun _ => N) (fun _ => sp) [.nat .u32 fun _ => l] false], []⟩) (fun i => len - i) 0 (Nat.zero_le _) (sub2 [0, 1, 2, 3, 4, 5, 6] 7 hb rfl rfl rfl rfl rfl rfl rfl rfl ?_) ?_
 ·cbv
  exact rf
 ·intro i hi
  cbv
  refine ⟨fun hc => ?_, fun hc => ?_⟩
  ·replace hc := toI_lt hc
   have hgi := hg i hc
   have e0 : l.getD (off + (toI i).toNat) 0 = l.getD (off + i) 0 := by rw [toI_toNat]
   generalize l.getD (off + i) 0 = x at hgi e0
   cbv
   refine ⟨rf, ?_⟩
   cbv
   refine ⟨rf, ?_⟩
   cbv
   refine callP_eq (args' := [.int .u32 fun _ => toI x, .bp 5 0]) (hp' := appL (spV b db bs σ q) [.arr ad (fun _ => N) (fun _ => sp) [.nat .u32 fun _ => l] false]) [.one 0, .one 1, .one 2, .one 3, .one 4, .one 5, .one 6] 7 hb rfl rfl (nodup_of rfl) rfl rfl rfl ?_ ?_
   ·cbv
    (repeat' first | with_reducible rfl | exact (show Ch.base _ = _ from rfl) | ((try simp only [toI, inI, List.length_nil] at *); omega) | exact trivial | refine ⟨?_, ?_⟩ | refine ⟨?_⟩ | intro _)
    all_goals rw [e0]
   refine callP_by hΓ hgi [0, 1, 2, 3, 4, 5] (by simp) ⟨⟨_, rfl, .inl rfl⟩, ⟨_, rfl, .inl rfl⟩, ⟨_, rfl, .inl rfl⟩, ⟨_, rfl, .inl rfl⟩, ⟨_, rfl, .inl rfl⟩, ⟨_, rfl, .inl rfl⟩, trivial⟩ rfl ?_
   rintro y hp' ⟨rfl, rfl⟩
   refine ⟨rfl, ?_⟩
   cbv
   refine .mk rf ?_
   cbv
   refine ⟨i + 1, by omega, by omega, sub2 [0, 1, 2, 3, 4, 5, 6] 7 hb rfl rfl rfl rfl rfl rfl rfl rfl ?_⟩
   cbv
   exact rf
  ·replace hc := toI_nlt hc
   cbv
   exact Cl.same rfl ⟨rfl, rfl⟩
theorem contains_none (g : Nat) (b db bs N sp off len ext : Nat) (a ad : Option Addr) (l : List Nat) (σ : Sp) (q : SpQ) (hl : l.length = N) (h : off + len ≤ N) (hlen : len ≤ 1000000000)
  (hg : ∀ i, i < len → FnSpec Tryz.prog g (spV b db bs σ q) [.int .u32 fun _ => toI (l.getD (off + i) 0), .bp 5 0] (fun v hp => v = .ff ∧ hp = spV b db bs σ q)) :
  FnSpec Tryz.prog 48 (appL (spV b db bs σ q) [.arr ad (fun _ => N) (fun _ => sp) [.nat .u32 fun _ => l] false]) [.sl 6 (fun _ => a) (fun _ => off) (fun _ => len) (fun _ => ext), .fn (.func g) [] [.bp 5 0]]
   (fun v hp => v = .ff ∧ hp = appL (spV b db bs σ q) [.arr ad (fun _ => N) (fun _ => sp) [.nat .u32 fun _ => l] false]) := by
 have hix := index_none g b db bs N sp off len ext a ad l σ q hl h hlen hg
 refine spec_cl mixed F48 rfl rfl rfl (fun Γ hΓ hb => ?_)
 cbv
 refine callP_by hΓ hix [0, 1, 2, 3, 4, 5, 6] (by simp) ⟨⟨_, rfl, .inl rfl⟩, ⟨_, rfl, .inl rfl⟩, ⟨_, rfl, .inl rfl⟩, ⟨_, rfl, .inl rfl⟩, ⟨_, rfl, .inl rfl⟩, ⟨_, rfl, .inl rfl⟩, ⟨_, rfl, .inl rfl⟩, trivial⟩ rfl ?_
 rintro x hp' ⟨rfl, rfl⟩
 refine ⟨rfl, ?_⟩
 cbv
 exact Cl.take 7 .ff hb rfl rfl ⟨decide_eq_false (by omega)⟩ rfl ⟨rfl, rfl⟩
theorem put_asked (b db bs n : Nat) (σ : Sp) (q : SpQ) (h : SpOk σ) (hn : n < 4294967296) (ha : spAsked σ n = true) :
  FnSpec Tryz.prog 49 (spV b db bs σ q) [.int .u32 fun _ => toI n, .bp 5 0] (fun v hp => v = .ff ∧ hp = spV b db bs σ q) := by
 refine spec_cl mixed F49 rfl rfl rfl (fun Γ hΓ hb => ?_)
 cbv
 refine callP_by hΓ (space_asked b db n σ q hn h) [0, 1, 2, 3, 4] (by simp) ⟨⟨_, rfl, .inl rfl⟩, ⟨_, rfl, .inl rfl⟩, ⟨_, rfl, .inl rfl⟩, ⟨_, rfl, .inl rfl⟩, ⟨_, rfl, .inl rfl⟩, trivial⟩ rfl ?_
 rintro x hp' ⟨rfl, rfl⟩
 refine ⟨rfl, ?_⟩
 cbv
 refine Cl.take 6 .ff hb rfl rfl ⟨?_⟩ rfl ⟨rfl, rfl⟩
 show (!spAsked σ n) = false
 rw [ha]
 rfl
theorem put_live (b db bs n : Nat) (σ : Sp) (q : SpQ) (h : SpOk σ) (hn : n < 4294967296) (ha : σ.now.getD n 0 ≠ 0) :
  FnSpec Tryz.prog 51 (spV b db bs σ q) [.int .u32 fun _ => toI n, .bp 5 0] (fun v hp => v = .ff ∧ hp = spV b db bs σ q) := by
 refine spec_cl mixed F51 rfl rfl rfl (fun Γ hΓ hb => ?_)
 cbv
 refine callP_by hΓ (counts_Get q.nb σ.size σ.blocks σ.now n hn h.now) [3] (by simp) ⟨⟨_, rfl, .inl rfl⟩, trivial⟩ rfl ?_
 rintro x hp' ⟨rfl, rfl⟩
 refine ⟨rfl, ?_⟩
 cbv
 refine Cl.take 6 .ff hb rfl rfl ⟨eqF om⟩ rfl ⟨rfl, rfl⟩
def spLn (b db : Nat) (σ : Sp) (now : List Nat) (q : SpQ) : List Ch :=
 [.box b q.ty [.pt fun _ => ⟨db, 0, none⟩, .int .u64 fun _ => toI σ.gen, .int .i64 fun _ => toI σ.size, .int .i64 fun _ => toI σ.blocks, .int .u32 fun _ => toI σ.root, .sl 1 (fun _ => q.a) (fun _ => 0) (fun _ => σ.sup.length) (fun _ => q.e), .int .i64 fun _ => toI σ.slot, .pt fun _ => ⟨q.hb, 0, none⟩, .pt fun _ => ⟨q.nb, 0, none⟩, .nilp] true,
  .arr q.ad (fun _ => σ.sup.length) (fun _ => q.e) [.nat .u32 fun _ => σ.sup] true, .res fun _ => CountsR q.hb σ.size σ.blocks σ.held, .res fun _ => CountsR q.nb σ.size σ.blocks now, .res fun _ => DevR db σ.size σ.blocks σ.dur σ.pend]
def spPut (σ : Sp) (n : Nat) (p : Page) : Sp := { σ with now := σ.now.set n 1, pend := σ.pend ++ [(n, pageB σ.size (σ.gen + 1) p)] }
theorem space_Put (b db n N sp off len ext : Nat) (a ad : Option Addr) (l : List Nat) (σ : Sp) (q : SpQ) (p : Page) (h : SpOk σ) (hp : PageOk σ.size σ.blocks p)
  (hl : l.length = N) (hof : off + len ≤ N) (hk : p.kids = subl l off len) (hkl : len = p.kids.length)
  (hka : ∀ k ∈ p.kids, spAsked σ k = true ∧ σ.now.getD k 0 ≠ 0) (hfr : σ.sup.length < (spFr σ σ.blocks).length) (ht : cTake σ.now σ.held = some n) (hnb : n < σ.blocks) :
  FnSpec Tryz.prog 16 (appL (spL b db σ q) [.arr ad (fun _ => N) (fun _ => sp) [.nat .u32 fun _ => l] false]) [.bp 0 0, .agg [.int .u8 fun _ => toI p.tag, .sl 5 (fun _ => a) (fun _ => off) (fun _ => len) (fun _ => ext), .str fun _ => p.data]]
   (fun v hp => v = .tup [.int .u32 fun _ => toI n, .int .i64 fun _ => 0] ∧ hp = appL (spL b db (spPut σ n p) q) [.arr ad (fun _ => N) (fun _ => sp) [.nat .u32 fun _ => l] false]) := by
 obtain ⟨t3, t, hk6, fits, kid⟩ := hp
 have geo := h.geo
 have g1 := geo.h1
 have g2 := geo.h2
 have g5 := geo.h5
 have hgn := h.gen
 have hpl := h.pl
 have hget : ∀ i (hi : i < len), l.getD (off + i) 0 = p.kids[i]'(by omega) := by
  intro i hi
  have h1 : p.kids[i]? = l[off + i]? := by
   rw [hk]; unfold subl
   rw [List.getElem?_take, if_pos hi, List.getElem?_drop]
  rw [List.getD_eq_getElem?_getD, ← h1, List.getElem?_eq_getElem (by omega)]
  rfl
 have hc1 := fun bs => contains_none 49 b db bs N sp off len ext a ad l σ q hl hof (by omega) (fun i hi => by
  rw [hget i hi]
  have hm := List.getElem_mem (l := p.kids) (n := i) (by omega)
  exact put_asked b db bs _ σ q h (by have := kid _ hm; omega) (hka _ hm).1)
 have hc2 := fun bs => contains_none 51 b db bs N sp off len ext a ad l σ q hl hof (by omega) (fun i hi => by
  rw [hget i hi]
  have hm := List.getElem_mem (l := p.kids) (n := i) (by omega)
  exact put_live b db bs _ σ q h (by have := kid _ hm; omega) (hka _ hm).2)
 have hr0 : spRoom σ 0 = σ.size - 18 := if_neg (by omega)
 have hrk : spRoom σ len = σ.size - 18 - 4 * len := if_neg (by omega)
 have hRoom0 := space_Room b db 0 σ q (by omega) h
 have hRoomK := space_Room b db len σ q (by omega) h
 rw [hr0] at hRoom0
 rw [hrk] at hRoomK
 have hFree := space_Free b db σ q h
 generalize (spFr σ σ.blocks).length = fl at hfr hFree
 have hTake : ∀ now1, now1 = σ.now.set n 1 → FnSpec Tryz.prog 54 (spL b db σ q) [.bp 0 0] (fun v hp => v = .tup [.int .u32 fun _ => toI n, .int .i64 fun _ => 0] ∧ hp = spLn b db σ now1 q) := by
  rintro _ rfl
  exact space_take b db n σ q h ht
 obtain ⟨now1, hn1⟩ : ∃ x, x = σ.now.set n 1 := ⟨_, rfl⟩
 replace hTake := hTake now1 hn1
 have hDl := pageD_length p
 have hDk : leB p.kids.length 2 ++ p.kids.flatMap (leB · 4) ++ p.data = pageD p := by rw [pageD, List.append_assoc]
 have hWr := space_write db σ.size σ.blocks n p.tag (σ.gen + 1) σ.dur σ.pend (pageD p) geo hnb (by omega) t (by omega) (by omega)
 have hquo : (toI (σ.size - 18)).tdiv 4 = toI ((σ.size - 18) / 4) := by
  simp only [toI]
  rw [Int.tdiv_eq_ediv_of_nonneg (by omega), Int.natCast_ediv]
  congr 1
 refine spec_cl mixed F16 rfl rfl rfl (fun Γ hΓ hb => ?_)
 cbv
 intro b6
 cbv
 intro b7
 cbv
 refine .no (decide_eq_false om) ?_
 cbv
 refine .no (decide_eq_false om) ?_
 cbv
 refine callP_by hΓ (hc1 b6) [0, 1, 2, 3, 4, 6, 5] (by simp) ⟨⟨_, rfl, .inl rfl⟩, ⟨_, rfl, .inl rfl⟩, ⟨_, rfl, .inl rfl⟩, ⟨_, rfl, .inl rfl⟩, ⟨_, rfl, .inl rfl⟩, ⟨_, rfl, .inl rfl⟩, ⟨_, rfl, .inl rfl⟩, trivial⟩ rfl ?_
 rintro x hp' ⟨rfl, rfl⟩
 refine ⟨rfl, ?_⟩
 cbv
 refine callP_by hΓ (hc2 b6) [0, 1, 2, 3, 4, 6, 5] (by simp) ⟨⟨_, rfl, .inl rfl⟩, ⟨_, rfl, .inl rfl⟩, ⟨_, rfl, .inl rfl⟩, ⟨_, rfl, .inl rfl⟩, ⟨_, rfl, .inl rfl⟩, ⟨_, rfl, .inl rfl⟩, ⟨_, rfl, .inl rfl⟩, trivial⟩ rfl ?_
 rintro x hp' ⟨rfl, rfl⟩
 refine ⟨rfl, ?_⟩
 cbv
 refine callP_by hΓ hRoom0 [0, 1, 2, 3, 4] (by simp) ⟨⟨_, rfl, .inl rfl⟩, ⟨_, rfl, .inl rfl⟩, ⟨_, rfl, .inl rfl⟩, ⟨_, rfl, .inl rfl⟩, ⟨_, rfl, .inl rfl⟩, trivial⟩ rfl ?_
 rintro x hp' ⟨rfl, rfl⟩
 refine ⟨rfl, ?_⟩
 cbv
 refine ⟨rfl, ?_⟩
 cbv
 refine ⟨⟨by omega, by rw [hquo]; exact om⟩, ?_⟩
 cbv
 refine .no (decide_eq_false (by rw [hquo]; exact om)) ?_
 cbv
 refine cP hΓ (hRoomK) [0, 1, 2, 3, 4] ?_
 rintro x hp' ⟨rfl, rfl⟩
 refine ⟨rfl, ?_⟩
 cbv
 refine ⟨rfl, ?_⟩
 cbv
 refine .no (decide_eq_false om) ?_
 cbv
 refine cP hΓ (hFree) [0, 1, 2, 3, 4] ?_
 rintro x hp' ⟨rfl, rfl⟩
 refine ⟨rfl, ?_⟩
 cbv
 refine ⟨rfl, ?_⟩
 cbv
 refine ⟨rfl, ?_⟩
 cbv
 refine .no (decide_eq_false om) ?_
 cbv
 refine cP hΓ (hTake) [0, 1, 2, 3, 4] ?_
 rintro x hp' ⟨rfl, rfl⟩
 refine ⟨rfl, ?_⟩
 cbv
 refine .no (neF rfl) ?_
 cbv
 refine callP_nil [.b8] (args' := [.sl 8 (fun _ => none) (fun _ => 0) (fun _ => 0) (fun _ => 0), .int .u64 fun _ => toI len, .int .i64 fun _ => toI 2]) rfl ?_ ?_
 ·cbv
  (repeat' first | with_reducible rfl | exact (show Ch.base _ = _ from rfl) | ((try simp only [toI, inI, List.length_nil] at *); omega) | exact trivial | refine ⟨?_, ?_⟩ | refine ⟨?_⟩ | intro _)
  exact wr_u64 om om
 cbv
 refine callP_by hΓ (octet_Put len 2 [] none none 0 0 (by omega) (by omega) rfl (by omega)) [8] (by simp) ⟨⟨_, rfl, .inl rfl⟩, trivial⟩ rfl ?_
 rintro x hp' ⟨a2, ad2, sp2, rfl, rfl⟩
 refine ⟨rfl, ?_⟩
 have hH0 : ([] : List UInt8) ++ leB len 2 = leB p.kids.length 2 := by rw [hkl]; rfl
 generalize hHH : leB p.kids.length 2 = H at hH0 hDk
 have hHl : H.length = 2 := by rw [← hHH, leB_length]
 rw [hH0]
 cbv
 refine loopJ (α := Nat × Option Addr × Option Addr × Nat) (fun (i, _, _, _) => i ≤ len) (fun (i, a', ad', sp') => ⟨114, [(2, .bp 6 0), (3, .bp 7 0), (6, .int .u32 fun _ => toI n), (8, .sl 8 (fun _ => a') (fun _ => 0) (fun _ => 2 + 4 * i) (fun _ => sp')), (79, .sl 5 (fun _ => a) (fun _ => off) (fun _ => len) (fun _ => ext)), (80, .int .i64 fun _ => toI len), (81, .int .i64 fun _ => toI i)],
  appL (spLn b db σ now1 q) [.arr ad (fun _ => N) (fun _ => sp) [.nat .u32 fun _ => l] false, .box b6 24 [.bp 0 0] true, .box b7 43 [.int .u8 fun _ => toI p.tag, .sl 5 (fun _ => a) (fun _ => off) (fun _ => len) (fun _ => ext), .str fun _ => p.data] true, .arr ad' (fun _ => 2 + 4 * i) (fun _ => sp') [.b8 fun _ => H ++ (p.kids.take i).flatMap (leB · 4)] true], []⟩) (fun (i, _, _, _) => len - i) (0, a2, ad2, sp2) (Nat.zero_le _) (sub2 [0, 1, 2, 3, 4, 5, 6, 7, 9] 6 hb rfl rfl rfl rfl rfl rfl rfl rfl ?_) ?_
 ·cbv
  (repeat' first | with_reducible rfl | exact (show Ch.base _ = _ from rfl) | ((try simp only [toI, inI, List.length_nil] at *); omega) | exact trivial | refine ⟨?_, ?_⟩ | refine ⟨?_⟩ | intro _)
  simp
 rintro ⟨i, a', ad', sp'⟩ hi
 have hi : i ≤ len := hi
 cbv
 refine ⟨fun hc => ?_, fun hc => ?_⟩
 ·replace hc := toI_lt hc
  have hmem : p.kids[i]'(by omega) ∈ p.kids := List.getElem_mem (by omega)
  have hq := kid _ hmem
  have hgd : l.getD (off + (toI i).toNat) 0 = p.kids[i]'(by omega) := by rw [toI_toNat]; exact hget i hc
  have hnx : (p.kids.take i).flatMap (leB · 4) ++ leB (p.kids[i]'(by omega)) 4 = (p.kids.take (i + 1)).flatMap (leB · 4) := by
   rw [List.take_add_one, List.getElem?_eq_getElem (by omega), List.flatMap_append]
   simp
  have hY : (H ++ (p.kids.take i).flatMap (leB · 4)).length = 2 + 4 * i := by
   rw [List.length_append, flatMap_leB_length, hHl, List.length_take]; omega
  generalize hYY : H ++ (p.kids.take i).flatMap (leB · 4) = Y at hY
  generalize p.kids[i]'(by omega) = pi at hgd hq hnx
  have w5 : wr .u64 (toI (l.getD (off + (toI i).toNat) 0)) = toI pi := by rw [hgd]; exact wr_u64 om om
  have hYX : Y ++ leB pi 4 = H ++ (p.kids.take (i + 1)).flatMap (leB · 4) := by rw [← hYY, List.append_assoc, hnx]
  cbv
  refine ⟨rf, ?_⟩
  cbv
  refine ⟨rf, ?_⟩
  cbv
  refine callP_eq (args' := [.sl 8 (fun _ => a') (fun _ => 0) (fun _ => 2 + 4 * i) (fun _ => sp'), .int .u64 fun _ => toI pi, .int .i64 fun _ => toI 4])
   (hp' := appL (spLn b db σ now1 q) [.arr ad (fun _ => N) (fun _ => sp) [.nat .u32 fun _ => l] false, .box b6 24 [.bp 0 0] true, .box b7 43 [.int .u8 fun _ => toI p.tag, .sl 5 (fun _ => a) (fun _ => off) (fun _ => len) (fun _ => ext), .str fun _ => p.data] true, .arr ad' (fun _ => 2 + 4 * i) (fun _ => sp') [.b8 fun _ => Y] true]) [.one 0, .one 1, .one 2, .one 3, .one 4, .one 5, .one 6, .one 7, .one 8] 6 hb rfl rfl (nodup_of rfl) rfl rfl rfl ?_ ?_
  ·cbv
   exact rf
  refine callP_by hΓ (octet_Put pi 4 Y a' ad' (2 + 4 * i) sp' (by omega) (by omega) hY (by omega)) [8] (by simp) ⟨⟨_, rfl, .inl rfl⟩, trivial⟩ rfl ?_
  rintro x hp' ⟨a3, ad3, sp3, rfl, rfl⟩
  refine ⟨rfl, ?_⟩
  cbv
  refine .mk rf ?_
  cbv
  refine ⟨(i + 1, a3, ad3, sp3), show i + 1 ≤ len by omega, show len - (i + 1) < len - i by omega, sub2 [0, 1, 2, 3, 4, 5, 6, 7, 9] 6 hb rfl rfl rfl rfl rfl rfl rfl rfl ?_⟩
  cbv
  exact rf
 ·replace hc := toI_nlt hc
  have : i = len := by omega
  subst this
  rw [hkl, List.take_length]
  have hYl : (H ++ p.kids.flatMap (leB · 4)).length = 2 + 4 * p.kids.length := by
   rw [List.length_append, flatMap_leB_length, hHl]
  generalize H ++ p.kids.flatMap (leB · 4) = Y at hDk hYl
  have hYe : List.take (2 + 4 * p.kids.length) (List.drop 0 Y) = Y := by
   rw [List.drop_zero, List.take_of_length_le (by omega)]
  have ad64 : ari .add .u64 (toI σ.gen) 1 = toI (σ.gen + 1) := wr_u64 om om
  cbv
  refine ⟨rf, ?_⟩
  cbv
  refine ⟨by show (List.take (2 + 4 * p.kids.length) (List.drop 0 Y)).length + p.data.length < _
             rw [hYe]; omega, ?_⟩
  cbv
  refine callP_eq (args' := [.pt fun _ => ⟨db, 0, none⟩, .int .u32 fun _ => toI n, .agg [.int .u8 fun _ => toI p.tag, .int .u64 fun _ => toI (σ.gen + 1), .str fun _ => pageD p]])
   (hp' := appL (spLn b db σ now1 q) [.arr ad (fun _ => N) (fun _ => sp) [.nat .u32 fun _ => l] false, .box b6 24 [.bp 0 0] true, .box b7 43 [.int .u8 fun _ => toI p.tag, .sl 5 (fun _ => a) (fun _ => off) (fun _ => p.kids.length) (fun _ => ext), .str fun _ => p.data] true, .gone ad' 1]) [.one 0, .one 1, .one 2, .one 3, .one 4, .one 5, .one 6, .one 7, .one 8] 6 hb rfl rfl (nodup_of rfl) rfl rfl rfl ?_ ?_
  ·cbv
   (repeat' first | with_reducible rfl | exact (show Ch.base _ = _ from rfl) | ((try simp only [toI, inI, List.length_nil] at *); omega) | exact trivial | refine ⟨?_, ?_⟩ | refine ⟨?_⟩ | intro _)
   rw [hYe]; exact hDk
  refine cP hΓ (hWr) [4] ?_
  rintro x hp' ⟨rfl, rfl⟩
  refine ⟨rfl, ?_⟩
  cbv
  refine .no (neF rfl) ?_
  cbv
  subst hn1
  refine Cl.tk 6 hb rfl rfl rfl ⟨rfl, rfl⟩
end Go.Proofs.YtfoffehokhkohaaGreat
