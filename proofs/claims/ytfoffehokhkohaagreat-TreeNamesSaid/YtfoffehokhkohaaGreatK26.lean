/- Part 26 of what is proved in the last text (packed by a program of mine). -/
import Derived.Test.YtfoffehokhkohaaGreatK11
import Derived.Test.YtfoffehokhkohaaGreatK12
import Derived.Test.YtfoffehokhkohaaGreatK13
import Derived.Test.YtfoffehokhkohaaGreatK25
set_option linter.all false
set_option maxRecDepth 20000
namespace Go.Proofs.YtfoffehokhkohaaGreat
open Go
variable [VPg]
@[reducible] def bV : Bool → SV
 | true => .tt
 | false => .ff
theorem tag_ok (r : Bool) : FnSpec Tryz.prog 40 [] [bV r] (fun v hp => v = .int .u8 (fun _ => toI (leafTag r)) ∧ hp = []) := by
 cases r with
 | true =>
  refine spec_cl mixed F40 rfl rfl rfl (fun Γ hΓ hb => ?_)
  cbv
  exact Cl.tk 0 hb rfl rfl rfl ⟨rfl, rfl⟩
 | false =>
  refine spec_cl mixed F40 rfl rfl rfl (fun Γ hΓ hb => ?_)
  cbv
  exact Cl.tk 0 hb rfl rfl rfl ⟨rfl, rfl⟩
theorem used_yes (b db val : Nat) (σ : Sp) (pg : PG) (E : List Nat) (hI : Inv σ pg (val :: E)) (hE : E.length ≤ 40000) :
  FnSpec Tryz.prog 41 [.res fun _ => SpaceR b db σ] [.pt fun _ => ⟨b, 0, none⟩, .int .u64 fun _ => toI val] (fun v hp => ∃ σ', v = .tt ∧ hp = [.res fun _ => SpaceR b db σ'] ∧ Inv σ' pg (val :: E) ∧ Step 0 σ σ') := by
 have hl : live σ val = true := hI.live_ext List.mem_cons_self
 have hkb := (asked_lt (live_asked hl)).2.1
 have hb4 := hI.ok.b4
 obtain ⟨s1, s2, s3⟩ := share_step hI hl (by rw [List.length_cons]; omega)
 have hsh := spc_Share b db val σ (by omega) hI.ok
 rw [s1] at hsh
 revert hsh s2 s3
 generalize (spShare σ val).2 = σ2
 intro s2 s3 hsh
 have hdr := spc_Drop b db val σ2 pg (val :: E) s2 (by rw [List.length_cons]; omega)
 have hwr : wr .u32 (toI val) = toI val := wr_u32 om om
 refine spec_cl mixed F41 rfl rfl rfl (fun Γ hΓ hb => ?_)
 cbv
 refine .no (decide_eq_false om) ?_
 cbv
 rw [hwr]
 refine cP hΓ (hsh) [0] ?_
 rintro x hp' ⟨rfl, rfl⟩
 refine ⟨rfl, ?_⟩
 cbv
 refine .yes rfl ?_
 cbv
 rw [hwr]
 refine cP hΓ (hdr) [0] ?_
 rintro x hp' ⟨σ3, rfl, rfl, k1, k2⟩
 refine ⟨rfl, ?_⟩
 cbv
 refine Cl.den (v' := .tt) ?_ rfl
 exact Cl.tk 1 hb rfl rfl rfl ⟨σ3, rfl, rfl, k1, (s3.trans k2).le (by omega)⟩
theorem used_no (b db val : Nat) (σ : Sp) (hI : SpOk σ) (hval : val < 4294967296) (hl : live σ val = false) :
  FnSpec Tryz.prog 41 [.res fun _ => SpaceR b db σ] [.pt fun _ => ⟨b, 0, none⟩, .int .u64 fun _ => toI val] (fun v hp => v = .ff ∧ hp = [.res fun _ => SpaceR b db σ]) := by
 have hsh := spc_Share b db val σ hval hI
 have hs : (spShare σ val).2 = σ ∧ ((spShare σ val).1 = 2 ∨ (spShare σ val).1 = 8) := by
  unfold live at hl
  unfold spShare
  by_cases ha : spAsked σ val = true
  ·rw [if_pos ha]
   rw [ha, Bool.true_and] at hl
   have h0 : σ.now.getD val 0 = 0 := by simpa using hl
   have h1 : cErr σ.now val = 2 ∨ cErr σ.now val = 8 := by
    unfold cErr
    split
    ·exact .inl rfl
    ·exact .inr rfl
   unfold cAdd
   rw [if_pos (by omega)]
   exact ⟨rfl, h1⟩
  ·rw [if_neg ha]; exact ⟨rfl, .inl rfl⟩
 obtain ⟨s1, s2⟩ := hs
 rw [s1] at hsh
 revert hsh s2
 generalize (spShare σ val).1 = e
 intro hsh s2
 have hwr : wr .u32 (toI val) = toI val := wr_u32 om om
 refine spec_cl mixed F41 rfl rfl rfl (fun Γ hΓ hb => ?_)
 cbv
 refine .no (decide_eq_false om) ?_
 cbv
 rw [hwr]
 refine cP hΓ (hsh) [0] ?_
 rintro x hp' ⟨rfl, rfl⟩
 refine ⟨rfl, ?_⟩
 cbv
 refine .no (decide_eq_false om) ?_
 cbv
 refine .no (decide_eq_false om) ?_
 cbv
 exact Cl.tk 1 hb rfl rfl rfl ⟨rfl, rfl⟩
theorem callP_nil0 {Γ : Ctx} {f : FuncId} {args : List SV} {hp : List Ch} {K : KV} (cts : List CT) (ha : SV.hsL hp.length args = true) (h : CallP Γ f args (appL hp [nilA cts]) K) : CallP Γ f args hp K := by
 refine ⟨fun w hd => ?_⟩
 have h1 := h.h w (hd.pushN cts)
 rw [(extB_push0 hp cts).denL ha] at h1
 refine h1.mono ?_
 rintro e w' ⟨x, hp', g1, g2, g3, g4, g5⟩
 exact ⟨x, hp', g1, g2, g3, (extB_push0 hp cts).trans g4, g5⟩
def TreeR (b db : Nat) (σ : Sp) (pg : PG) (E : List Nat) (r : Bool) (l : Ent) (c : Nat) : KV := fun y hp => ∃ (n : Nat) (σ' : Sp) (pg' : PG),
 y = .tup [.int .u32 fun _ => toI n, .int .i64 fun _ => 0] ∧ hp = [.res fun _ => SpaceR b db σ'] ∧ Step c σ σ' ∧ Keep pg pg' E ∧
 (l = [] ∧ n = 0 ∧ Inv σ' pg' E ∨ ∃ h, Inv σ' pg' (n :: E) ∧ Rep pg' r h n l)
set_option maxHeartbeats 1000000 in
theorem insert_new (b db key val : Nat) (r : Bool) (σ : Sp) (pg : PG) (E : List Nat) (hI : Inv σ pg (refV r val ++ E)) (hpv : r = true → pg val = VPg.vp) (hE : E.length ≤ 30000) (hRm : Room σ 3) (hkey : key < 18446744073709551616) (hval : val < 18446744073709551616) (hv2 : r = true → val < 4294967296) :
  FnSpec Tryz.prog 12 [.res fun _ => SpaceR b db σ] [.pt fun _ => ⟨b, 0, none⟩, .int .u32 fun _ => toI 0, bV r, .int .u64 fun _ => toI key, .int .u64 fun _ => toI val] (TreeR b db σ pg E r [(key, val)] 2) := by
 have hcut3 : ∀ σ3 : Sp, SpOk σ3 → ∀ t, cutN [[(key, val)]].length (mostE σ3 t) = 1 := fun σ3 h3 t => by
  have := most6 h3 t
  obtain ⟨c1, c2, c3, c4⟩ := cutN_ok (m := 1) (fit := mostE σ3 t) (by omega) (by omega)
  show cutN 1 _ = 1
  omega
 have hcut := hcut3 σ hI.ok
 cases r with
 | false =>
  have hup := fun b1 => upsert_leaf b db b1 key val σ ⟨⟨none, none, 0⟩, ⟨none, none, 0⟩, ⟨none, none, 0⟩⟩ (leafNd false []) [] rfl ⟨List.Pairwise.nil, by simp⟩ (by simp) hkey hval
  have hT := tag_ok false
  rw [show leafTag false = 4 from rfl] at hT
  have hrt := fun (q : NQ) => tree_root b db false E 1 0 4 1 0 σ pg (gk q (leafNd false [(key, val)])) (gv q (leafNd false [(key, val)])) (gd q (leafNd false [(key, val)])) (leafNd false [(key, val)]) [[(key, val)]] (by simp) (ng_gk (q := q) (x := leafNd false [(key, val)])) ⟨[(key, val)], rfl, rfl, fun k hk => by cases hk⟩ (by simp) (by simp) (by simp) (by omega) hI (by rw [hcut]; exact hRm)
  rw [show eput [] key val = [(key, val)] from rfl] at hup
  simp only [hcut] at hrt
  rw [show [[(key, val)]].flatten = [(key, val)] from rfl] at hrt
  refine spec_cl mixed F12 rfl rfl rfl (fun Γ hΓ hb => ?_)
  cbv
  refine .no (neF rfl) ?_
  cbv
  refine cP hΓ (hT) [] ?_
  rintro x hp' ⟨rfl, rfl⟩
  refine ⟨rfl, ?_⟩
  cbv
  intro b1
  cbv
  refine .yes (eqT rfl) ?_
  cbv
  refine callP_nil0 [.nat .u32] ?_ ?_
  ·rfl
  refine callP_nil0 [.nat .u64] ?_ ?_
  ·rfl
  refine callP_nil0 [.nat .u64] ?_ ?_
  ·rfl
  cbv
  refine callP_box 1 [.int .u8 fun _ => toI 4, .sl 4 (fun _ => none) (fun _ => 0) (fun _ => 0) (fun _ => 0), .sl 3 (fun _ => none) (fun _ => 0) (fun _ => 0) (fun _ => 0), .sl 2 (fun _ => none) (fun _ => 0) (fun _ => 0) (fun _ => 0)] rfl rfl rfl rfl ?_
  refine cP hΓ (hup b1) [0, 1, 2, 4, 3] ?_
  rintro x hp' ⟨ka, kad, va, vad, ke, ve, rfl, rfl⟩
  refine ⟨rfl, ?_⟩
  cbv
  refine .no (neF rfl) ?_
  cbv
  refine cP hΓ (hrt ⟨⟨ka, kad, ke⟩, ⟨va, vad, ve⟩, ⟨none, none, 0⟩⟩) [0, 5, 6, 2] ?_
  rintro x hp' ⟨n, σ4, pg4, rfl, rfl, k1, k2, k3⟩
  refine ⟨rfl, ?_⟩
  cbv
  refine Cl.tk 1 hb rfl rfl rfl ⟨n, σ4, pg4, rfl, rfl, k1, k2, k3⟩
 | true =>
  have hup := fun (b1 : Nat) (σ2 : Sp) (u1 : Inv σ2 pg (val :: E)) => upsert_refs b db b1 key val σ2 pg E ⟨⟨none, none, 0⟩, ⟨none, none, 0⟩, ⟨none, none, 0⟩⟩ (leafNd true []) [] rfl ⟨List.Pairwise.nil, by simp⟩ (by simp) hkey (hv2 rfl) u1 (by omega)
  have hT := tag_ok true
  rw [show leafTag true = 5 from rfl] at hT
  have hrt := fun (q : NQ) (σ3 : Sp) (w1 : Inv σ3 pg ((leafNd true [(key, val)]).kids ++ E)) (w2 : Step 0 σ σ3) => tree_root b db true E 1 0 5 1 0 σ3 pg (gk q (leafNd true [(key, val)])) (gv q (leafNd true [(key, val)])) (gd q (leafNd true [(key, val)])) (leafNd true [(key, val)]) [[(key, val)]] (by simp) (ng_gk (q := q) (x := leafNd true [(key, val)])) ⟨[(key, val)], rfl, rfl, fun k hk => by rw [List.mem_singleton.1 (show k ∈ [val] from hk)]; exact hpv rfl⟩ (by simp) (by simp) (by simp) (by omega) w1 (by rw [hcut3 σ3 w1.ok]; exact Room.step (j := 0) hRm w2)
  rw [show eput [] key val = [(key, val)] from rfl] at hup
  have hrt := fun (q : NQ) (σ3 : Sp) (w1 : Inv σ3 pg ((leafNd true [(key, val)]).kids ++ E)) (w2 : Step 0 σ σ3) => by
   have := hrt q σ3 w1 w2
   rw [hcut3 σ3 w1.ok] at this
   exact this
  rw [show [[(key, val)]].flatten = [(key, val)] from rfl] at hrt
  refine spec_cl mixed F12 rfl rfl rfl (fun Γ hΓ hb => ?_)
  cbv
  refine .no (neF rfl) ?_
  cbv
  refine cP hΓ (used_yes b db val σ pg E hI (by omega)) [0] ?_
  rintro x hp' ⟨σ2, rfl, rfl, u1, u2⟩
  refine ⟨rfl, ?_⟩
  cbv
  refine cP hΓ (hT) [] ?_
  rintro x hp' ⟨rfl, rfl⟩
  refine ⟨rfl, ?_⟩
  cbv
  intro b1
  cbv
  refine .yes (eqT rfl) ?_
  cbv
  refine callP_nil0 [.nat .u32] ?_ ?_
  ·rfl
  refine callP_nil0 [.nat .u64] ?_ ?_
  ·rfl
  refine callP_nil0 [.nat .u64] ?_ ?_
  ·rfl
  cbv
  refine callP_box 1 [.int .u8 fun _ => toI 5, .sl 4 (fun _ => none) (fun _ => 0) (fun _ => 0) (fun _ => 0), .sl 3 (fun _ => none) (fun _ => 0) (fun _ => 0) (fun _ => 0), .sl 2 (fun _ => none) (fun _ => 0) (fun _ => 0) (fun _ => 0)] rfl rfl rfl rfl ?_
  refine cP hΓ (hup b1 σ2 u1) [0, 1, 2, 4, 3] ?_
  rintro x hp' ⟨ka, kad, va, vad, ke, ve, σ3, rfl, w1, w2, rfl⟩
  refine ⟨rfl, ?_⟩
  cbv
  refine .no (neF rfl) ?_
  cbv
  refine cP hΓ (hrt ⟨⟨ka, kad, ke⟩, ⟨none, none, 0⟩, ⟨va, vad, ve⟩⟩ σ3 w1 ((u2.trans w2).le (by omega))) [0, 5, 3, 6] ?_
  rintro x hp' ⟨n, σ4, pg4, rfl, rfl, k1, k2, k3⟩
  refine ⟨rfl, ?_⟩
  cbv
  refine Cl.tk 1 hb rfl rfl rfl ⟨n, σ4, pg4, rfl, rfl, ((u2.trans w2).trans k1).le (by omega), k2, k3⟩
theorem insert_bad (b db key val : Nat) (σ : Sp) (hI : SpOk σ) (hval : val < 4294967296) (hl : live σ val = false) :
  FnSpec Tryz.prog 12 [.res fun _ => SpaceR b db σ] [.pt fun _ => ⟨b, 0, none⟩, .int .u32 fun _ => toI 0, .tt, .int .u64 fun _ => toI key, .int .u64 fun _ => toI val] (fun y hp => y = .tup [.int .u32 fun _ => toI 0, .int .i64 fun _ => 2] ∧ hp = [.res fun _ => SpaceR b db σ]) := by
 refine spec_cl mixed F12 rfl rfl rfl (fun Γ hΓ hb => ?_)
 cbv
 refine .no (neF rfl) ?_
 cbv
 refine cP hΓ (used_no b db val σ hI hval hl) [0] ?_
 rintro x hp' ⟨rfl, rfl⟩
 refine ⟨rfl, ?_⟩
 cbv
 exact Cl.tk 1 hb rfl rfl rfl ⟨rfl, rfl⟩
theorem insert_kind (b db n h key val : Nat) (r : Bool) (σ : Sp) (pg : PG) (E : List Nat) (l : Ent) (hI : Inv σ pg E) (hl : live σ n = true) (hR : Rep pg r h n l) (he : EntOk l) (hkey : key < 18446744073709551616) (hh : h ≤ 15) :
  FnSpec Tryz.prog 12 [.res fun _ => SpaceR b db σ] [.pt fun _ => ⟨b, 0, none⟩, .int .u32 fun _ => toI n, bV (!r), .int .u64 fun _ => toI key, .int .u64 fun _ => toI val] (fun y hp => y = .tup [.int .u32 fun _ => toI 0, .int .i64 fun _ => 11] ∧ hp = [.res fun _ => SpaceR b db σ]) := by
 have hlf := tree_leaf b db n h key r σ pg E l hI hl hR he hkey hh
 have hn0 : n ≠ 0 := by have := (asked_lt (live_asked hl)).1; omega
 have hT := tag_ok (!r)
 cases r
 all_goals
  refine spec_cl mixed F12 rfl rfl rfl (fun Γ hΓ hb => ?_)
  cbv
  refine .yes (neT om) ?_
  cbv
  refine cP hΓ (hlf) [0] ?_
  rintro x hp' ⟨q, x, l1, rfl, rfl, g1, g2, g3, g4, g5, g6⟩
  refine ⟨rfl, ?_⟩
  cbv
  intro b1
  cbv
  refine .no (neF rfl) ?_
  cbv
  refine cP hΓ (hT) [] ?_
  rintro x hp' ⟨rfl, rfl⟩
  refine ⟨rfl, ?_⟩
  cbv
  refine VC.mk (by first | rfl | exact rf) ?_
  cbv
  rw [congrArg Nd.tag g1]
  refine .yes (neT (by simp [toI, leafNd, leafTag])) ?_
  cbv
  exact Cl.tk 1 hb rfl rfl rfl ⟨rfl, rfl⟩
theorem insert_more (b db n h key val : Nat) (r : Bool) (σ : Sp) (pg : PG) (E : List Nat) (l : Ent) (hI : Inv σ pg (n :: (refV r val ++ E))) (hpv : r = true → pg val = VPg.vp) (hR : Rep pg r h n l) (he : EntOk l) (hE : E.length ≤ 20000) (hh : h ≤ 6) (hRm : Room σ (2 * h + 5)) (hkey : key < 18446744073709551616) (hval : val < 18446744073709551616) (hv2 : r = true → val < 4294967296) :
  FnSpec Tryz.prog 12 [.res fun _ => SpaceR b db σ] [.pt fun _ => ⟨b, 0, none⟩, .int .u32 fun _ => toI n, bV r, .int .u64 fun _ => toI key, .int .u64 fun _ => toI val] (TreeR b db σ pg E r (eput l key val) (2 * h + 4)) := by
 have hl : live σ n = true := hI.live_ext List.mem_cons_self
 have hlf := tree_leaf b db n h key r σ pg _ l hI hl hR he hkey (by omega)
 have hn0 : n ≠ 0 := by have := (asked_lt (live_asked hl)).1; omega
 have hT := tag_ok r
 have hin := fun (σ2 : Sp) (i2 : Inv σ2 pg (n :: (refV r val ++ E))) (s2 : Step 0 σ σ2) => tree_insert b db key val r hkey hval hv2 h n σ2 pg E l i2 hpv hR he (by omega) (Room.step (j := 0) (hRm.le (by omega)) s2)
 have hus := fun hr : r = true => used_yes b db val σ pg (n :: E) (by
  subst hr
  exact hI.perm (List.Perm.swap _ _ _)) (by rw [List.length_cons]; omega)
 obtain ⟨l', hl'⟩ : ∃ l', l' = eput l key val := ⟨_, rfl⟩
 rw [← hl'] at hin ⊢
 have hrt : ∀ (σ2 σ3 : Sp) (pg3 : PG) (q : NQ) (x : Nd) (ls : List Ent), Step 0 σ σ2 → Ins σ2 pg E r h l' (2 * h) σ3 pg3 x ls → FnSpec Tryz.prog 43 (psL b db σ3 (gk q x) (gv q x) (gd q x)) [.agg [.int .u8 fun _ => toI x.tag, gsV 1 (gk q x), gsV 2 (gv q x), gsV 3 (gd q x)], .pt fun _ => ⟨b, 0, none⟩, .int .i64 fun _ => toI (h + 1)]
   (fun y hp => ∃ (n : Nat) (σ' : Sp) (pg' : PG), y = .tup [.int .u32 fun _ => toI n, .int .i64 fun _ => 0] ∧ hp = psL b db σ' (gk q x) (gv q x) (gd q x) ∧ Step (2 * h + 4) σ σ' ∧ Keep pg pg' E ∧ (l' = [] ∧ n = 0 ∧ Inv σ' pg' E ∨ ∃ h, Inv σ' pg' (n :: E) ∧ Rep pg' r h n l')) := by
  intro σ2 σ3 pg3 q x ls hs0 H
  have hm6 := most6 H.inv.ok x.tag
  have hmh := most_hi H.inv.ok x.tag
  have hlen : 1 ≤ ls.length := by have := H.least; unfold least at this; split at this <;> omega
  have hfit : ls.length ≤ mostE σ3 x.tag + 1 := by rw [mostE_step H.step]; exact H.fit
  obtain ⟨d1, d2, d3, d4⟩ := cutN_ok (m := ls.length) (fit := mostE σ3 x.tag) hlen (by omega)
  have hn2 : cutN ls.length (mostE σ3 x.tag) ≤ 2 := by
   rcases Nat.lt_or_ge 2 (cutN ls.length (mostE σ3 x.tag)) with h | h
   ·have : 2 * mostE σ3 x.tag ≤ (cutN ls.length (mostE σ3 x.tag) - 1) * mostE σ3 x.tag := Nat.mul_le_mul_right _ (by omega)
    omega
   ·exact h
  have hst : Step (2 * h) σ σ3 := (hs0.trans H.step).le (by omega)
  have := tree_root b db r E ls.length h x.tag (h + 1) 9 σ3 pg3 (gk q x) (gv q x) (gd q x) x ls (Nat.le_refl _) ng_gk H.nr hlen (by omega) (by omega) (by omega) H.inv ((Room.step (j := 2 * h) (k := 5) hRm hst).le (by omega))
  rw [H.fl] at this
  refine this.mono ?_
  rintro y hp ⟨m, σ', pg', w1, w2, w3, w4, w5⟩
  exact ⟨m, σ', pg', w1, w2, (hst.trans w3).le (by omega), H.keep.trans w4, w5⟩
 obtain ⟨c4, hc4⟩ : ∃ c4, c4 = 2 * h + 4 := ⟨_, rfl⟩
 rw [← hc4] at hrt ⊢
 cases r
 ·refine spec_cl mixed F12 rfl rfl rfl (fun Γ hΓ hb => ?_)
  cbv
  refine .yes (neT om) ?_
  cbv
  refine cP hΓ (hlf) [0] ?_
  rintro x hp' ⟨q, x, l1, rfl, rfl, g1, g2, g3, g4, g5, g6⟩
  refine ⟨rfl, ?_⟩
  cbv
  intro b1
  cbv
  refine .no (neF rfl) ?_
  cbv
  refine cP hΓ (hT) [] ?_
  rintro x hp' ⟨rfl, rfl⟩
  refine ⟨rfl, ?_⟩
  cbv
  refine VC.mk (by first | rfl | exact rf) ?_
  cbv
  rw [congrArg Nd.tag g1]
  refine .no (neF rfl) ?_
  cbv
  refine cP hΓ (hT) [] ?_
  rintro x hp' ⟨rfl, rfl⟩
  refine ⟨rfl, ?_⟩
  cbv
  intro b2
  cbv
  refine .no (eqF om) ?_
  cbv
  refine cP hΓ (hin σ hI (Step.refl _)) [0] ?_
  rintro x hp' ⟨q2, x2, ls2, σ3, pg3, rfl, rfl, hins⟩
  refine ⟨rfl, ?_⟩
  cbv
  refine .no (neF rfl) ?_
  cbv
  refine cP hΓ (hrt σ σ3 pg3 q2 x2 ls2 (Step.refl _) hins) [0, 7, 8, 6] ?_
  rintro x hp' ⟨m, σ4, pg4, rfl, rfl, k1, k2, k3⟩
  refine ⟨rfl, ?_⟩
  cbv
  exact Cl.tk 1 hb rfl rfl rfl ⟨m, σ4, pg4, rfl, rfl, k1, k2, k3⟩
 ·refine spec_cl mixed F12 rfl rfl rfl (fun Γ hΓ hb => ?_)
  cbv
  refine .yes (neT om) ?_
  cbv
  refine cP hΓ (hlf) [0] ?_
  rintro x hp' ⟨q, x, l1, rfl, rfl, g1, g2, g3, g4, g5, g6⟩
  refine ⟨rfl, ?_⟩
  cbv
  intro b1
  cbv
  refine .no (neF rfl) ?_
  cbv
  refine cP hΓ (hT) [] ?_
  rintro x hp' ⟨rfl, rfl⟩
  refine ⟨rfl, ?_⟩
  cbv
  refine VC.mk (by first | rfl | exact rf) ?_
  cbv
  rw [congrArg Nd.tag g1]
  refine .no (neF rfl) ?_
  cbv
  refine cP hΓ (hus rfl) [0] ?_
  rintro x hp' ⟨σ2, rfl, rfl, u1, u2⟩
  refine ⟨rfl, ?_⟩
  cbv
  refine cP hΓ (hT) [] ?_
  rintro x hp' ⟨rfl, rfl⟩
  refine ⟨rfl, ?_⟩
  cbv
  intro b2
  cbv
  refine .no (eqF om) ?_
  cbv
  refine cP hΓ (hin σ2 (u1.perm (List.Perm.swap _ _ _)) u2) [0] ?_
  rintro x hp' ⟨q2, x2, ls2, σ3, pg3, rfl, rfl, hins⟩
  refine ⟨rfl, ?_⟩
  cbv
  refine .no (neF rfl) ?_
  cbv
  refine cP hΓ (hrt σ2 σ3 pg3 q2 x2 ls2 u2 hins) [0, 7, 8, 6] ?_
  rintro x hp' ⟨m, σ4, pg4, rfl, rfl, k1, k2, k3⟩
  refine ⟨rfl, ?_⟩
  cbv
  exact Cl.tk 1 hb rfl rfl rfl ⟨m, σ4, pg4, rfl, rfl, k1, k2, k3⟩
end Go.Proofs.YtfoffehokhkohaaGreat
namespace Go.Proofs.YtfoffehokhkohaaGreat
open Go
variable [VPg]
structure Rem (σ : Sp) (pg : PG) (E : List Nat) (r : Bool) (h : Nat) (l' : Ent) (c : Nat) (σ' : Sp) (pg' : PG) (x' : Nd) (ls' : List Ent) : Prop where
 nr : NR pg' r h x' ls'
 fl : ls'.flatten = l'
 inv : Inv σ' pg' (x'.kids ++ E)
 keep : Keep pg pg' E
 step : Step c σ σ'
 least : h ≠ 0 → 1 ≤ ls'.length
 fit : ls'.length ≤ mostE σ x'.tag
theorem Rem.le {σ σ' : Sp} {pg pg' : PG} {E : List Nat} {r : Bool} {h c c' : Nat} {l' : Ent} {x' : Nd} {ls' : List Ent} (H : Rem σ pg E r h l' c σ' pg' x' ls') (hc : c ≤ c') : Rem σ pg E r h l' c' σ' pg' x' ls' := ⟨H.nr, H.fl, H.inv, H.keep, H.step.le hc, H.least, H.fit⟩
theorem rem_at {σ σ3 : Sp} {pg pg3 : PG} {E : List Nat} {r : Bool} {h k c : Nat} {x : Nd} {ls : List Ent} {l' m' : Ent} {Q : List (Nat × Ent)} (hx : NR pg r (h + 1) x ls) (hc : c < ls.length) (hfit : ls.length ≤ mostE σ x.tag) (h2 : 2 ≤ ls.length) (hst : Step k σ σ3)
  (hkp : Keep pg pg3 (x.kids.take c ++ (x.kids.drop (c + 1) ++ E))) (hQr : ∀ q ∈ Q, Rep pg3 r h q.1 q.2) (hQi : Inv σ3 pg3 ((Q.map fun q => q.1) ++ (x.kids.take c ++ (x.kids.drop (c + 1) ++ E)))) (hQ : Q.length ≤ 1) (hQf : (Q.map fun q => q.2).flatten = m')
  (hl : l' = (ls.take c).flatten ++ (m' ++ (ls.drop (c + 1)).flatten)) :
  Rem σ pg E r (h + 1) l' k σ3 pg3 ⟨3, swapL x.keys c (Q.map fun q => hd q.2), [], swapL x.kids c (Q.map fun q => q.1)⟩ (swapL ls c (Q.map fun q => q.2)) := by
 have hlen : (swapL ls c (Q.map fun q => q.2)).length = ls.length - 1 + Q.length := by rw [swap_len _ _ _ hc, List.length_map]
 refine ⟨hx.swap hc (hkp.mono fun m hm => ?_) hQr, ?_, ?_, hkp.mono fun m hm => List.mem_append_right _ (List.mem_append_right _ hm), hst, fun _ => ?_, ?_⟩
 ·rcases List.mem_append.1 hm with hm | hm
  ·exact List.mem_append_left _ hm
  ·exact List.mem_append_right _ (List.mem_append_left _ hm)
 ·rw [swap_flatten, hQf, hl]
 ·refine hQi.perm ?_
  show List.Perm _ (swapL x.kids c (Q.map fun q => q.1) ++ E)
  unfold swapL
  rw [List.append_assoc, List.append_assoc]
  exact List.perm_append_comm_assoc _ _ _
 ·rw [hlen]; omega
 ·rw [hlen]
  have : mostE σ x.tag = mostE σ 3 := by rw [hx.tag, if_neg (by omega)]
  show _ ≤ mostE σ 3
  omega
theorem swap2 {α : Type} (l : List α) (a : Nat) (m : List α) (h : a + 1 < l.length) : swapL (swapL l (a + 1) []) a m = l.take a ++ (m ++ l.drop (a + 2)) := by
 unfold swapL
 rw [List.append_nil, List.append_assoc]
 congr 1
 ·rw [List.take_append_of_le_length (by rw [List.length_take]; omega), List.take_take, Nat.min_eq_left (by omega)]
 ·congr 1
  have hl : (l.take (a + 1)).length = a + 1 := by rw [List.length_take]; omega
  have := List.drop_append (l₁ := l.take (a + 1)) (l₂ := l.drop (a + 1 + 1)) (i := a + 1)
  rw [this, hl, Nat.sub_self, List.drop_of_length_le (by omega)]
  rfl
theorem rem_join {σ σ3 : Sp} {pg pg3 : PG} {E : List Nat} {r : Bool} {h k a : Nat} {x : Nd} {ls : List Ent} {l' : Ent} {Q : List (Nat × Ent)} (hx : NR pg r (h + 1) x ls) (hc : a + 1 < ls.length) (hfit : ls.length ≤ mostE σ x.tag) (hst : Step k σ σ3)
  (hkp : Keep pg pg3 (x.kids.take a ++ (x.kids.drop (a + 2) ++ E))) (hQr : ∀ q ∈ Q, Rep pg3 r h q.1 q.2) (hQi : Inv σ3 pg3 ((Q.map fun q => q.1) ++ (x.kids.take a ++ (x.kids.drop (a + 2) ++ E)))) (hQ : Q.length ≤ 2) (hQ1 : 1 ≤ Q.length)
  (hl : l' = (ls.take a).flatten ++ ((Q.map fun q => q.2).flatten ++ (ls.drop (a + 2)).flatten)) :
  Rem σ pg E r (h + 1) l' k σ3 pg3 ⟨3, swapL (swapL x.keys (a + 1) []) a (Q.map fun q => hd q.2), [], swapL (swapL x.kids (a + 1) []) a (Q.map fun q => q.1)⟩ (swapL (swapL ls (a + 1) []) a (Q.map fun q => q.2)) := by
 have hkl : x.kids.length = ls.length := by rw [hx.kids, if_neg (by omega)]
 have hlen : (swapL (swapL ls (a + 1) []) a (Q.map fun q => q.2)).length = ls.length - 2 + Q.length := by
  rw [swap2 _ _ _ hc, List.length_append, List.length_append, List.length_take, List.length_drop, List.length_map]; omega
 have h1 := hx.swap (Q := []) hc (Keep.refl _ _) (fun q hq => by cases hq)
 have hlen1 : (swapL ls (a + 1) []).length = ls.length - 1 := by rw [swap_len _ _ _ hc]; rfl
 have hk1 : (swapL x.kids (a + 1) []).take a = x.kids.take a ∧ (swapL x.kids (a + 1) []).drop (a + 1) = x.kids.drop (a + 2) := by
  have e := swap2 x.kids a [] (by omega)
  unfold swapL at e ⊢
  rw [List.append_nil, List.append_nil] at *
  have hl : (x.kids.take (a + 1)).length = a + 1 := by rw [List.length_take]; omega
  constructor
  ·rw [List.take_append_of_le_length (by omega), List.take_take, Nat.min_eq_left (by omega)]
  ·rw [List.drop_append, hl, Nat.sub_self, List.drop_of_length_le (by omega)]; rfl
 refine ⟨NR.swap (Q := Q) h1 (by show a < (swapL ls (a + 1) []).length; omega) ?_ hQr, ?_, ?_, hkp.mono fun m hm => List.mem_append_right _ (List.mem_append_right _ hm), hst, fun _ => ?_, ?_⟩
 ·refine hkp.mono fun m hm => ?_
  have hm : m ∈ (swapL x.kids (a + 1) []).take a ++ (swapL x.kids (a + 1) []).drop (a + 1) := hm
  rw [hk1.1, hk1.2] at hm
  rcases List.mem_append.1 hm with hm | hm
  ·exact List.mem_append_left _ hm
  ·exact List.mem_append_right _ (List.mem_append_left _ hm)
 ·rw [swap2 _ _ _ hc, List.flatten_append, List.flatten_append, hl]
 ·refine hQi.perm ?_
  show List.Perm _ (swapL (swapL x.kids (a + 1) []) a (Q.map fun q => q.1) ++ E)
  rw [swap2 _ _ _ (by omega), List.append_assoc, List.append_assoc]
  exact List.perm_append_comm_assoc _ _ _
 ·rw [hlen]; omega
 ·rw [hlen]
  have : mostE σ x.tag = mostE σ 3 := by rw [hx.tag, if_neg (by omega)]
  show _ ≤ mostE σ 3
  omega
theorem NR.app {pg : PG} {r : Bool} {h : Nat} {y z : Nd} {l m : List Ent} (H : NR pg r (h + 1) y l) (G : NR pg r (h + 1) z m) : NR pg r (h + 1) ⟨3, y.keys ++ z.keys, [], y.kids ++ z.kids⟩ (l ++ m) := by
 obtain ⟨ks, rfl, h2, h3⟩ := H
 obtain ⟨js, rfl, g2, g3⟩ := G
 refine ⟨ks ++ js, by rw [List.map_append], by rw [List.length_append, List.length_append, h2, g2], fun p hp => ?_⟩
 have hp : p ∈ (ks ++ js).zip (l ++ m) := hp
 rw [List.zip_append h2] at hp
 rcases List.mem_append.1 hp with hp | hp
 ·exact h3 p hp
 ·exact g3 p hp
theorem ecut_len {l : Ent} {k v : Nat} (h : l.Pairwise fun a b => a.1 < b.1) (hm : (k, v) ∈ l) : (ecut l k).length + 1 = l.length := by
 induction l with
 | nil => cases hm
 | cons e l ih =>
  have hlt := (List.pairwise_cons.1 h).1
  rcases List.mem_cons.1 hm with rfl | hm
  ·have h1 : l.filter (fun e => decide (e.1 < k)) = [] := filter_none fun a ha => by have := hlt a ha; simp; omega
   have h2 : l.filter (fun e => decide (k < e.1)) = l := filter_all fun a ha => by have := hlt a ha; simpa using this
   unfold ecut
   rw [List.filter_cons_of_neg (by simp), List.filter_cons_of_neg (by simp), h1, h2]
   rfl
  ·have hek := hlt _ hm
   have := ih (List.pairwise_cons.1 h).2 hm
   unfold ecut at this ⊢
   rw [List.filter_cons_of_pos (by simpa using hek), List.filter_cons_of_neg (by simp; omega), List.cons_append, List.length_cons, List.length_cons]
   omega
end Go.Proofs.YtfoffehokhkohaaGreat
set_option maxRecDepth 20000
namespace Go.Proofs.YtfoffehokhkohaaGreat
open Go
variable [VPg]
def JoinR (b db : Nat) (q qy : NQ) (x y : Nd) (σ : Sp) (pg : PG) (E : List Nat) (r : Bool) (h : Nat) (l' : Ent) (c : Nat) : KV := fun v hp => ∃ (a1 ad1 a2 ad2 : Option Addr) (e1 e2 : Nat) (x' : Nd) (ls' : List Ent) (σ' : Sp) (pg' : PG),
 v = .tup [.agg [.int .u8 fun _ => toI 3, .sl 7 (fun _ => a1) (fun _ => 0) (fun _ => x'.keys.length) (fun _ => e1), .sl 3 (fun _ => q.v.a) (fun _ => 0) (fun _ => x.vals.length) (fun _ => q.v.e), .sl 8 (fun _ => a2) (fun _ => 0) (fun _ => x'.kids.length) (fun _ => e2)], .int .i64 fun _ => 0] ∧
 hp = appL (appL [.res fun _ => SpaceR b db σ'] (appL (ndL q x false) (ndL qy y false))) [.arr ad1 (fun _ => x'.keys.length) (fun _ => e1) [.nat .u64 fun _ => x'.keys] true, .arr ad2 (fun _ => x'.kids.length) (fun _ => e2) [.nat .u32 fun _ => x'.kids] true] ∧
 Rem σ pg E r h l' c σ' pg' x' ls' ∧ x'.vals = [] ∧ x'.tag = 3
set_option maxHeartbeats 2000000 in
theorem join_right (b db h a c : Nat) (r : Bool) (σ0 σ : Sp) (pg0 pg : PG) (E : List Nat) (q qy : NQ) (x y : Nd) (ls lsy : List Ent) (l' : Ent) (hx : NR pg0 r (h + 2) x ls) (hy : NR pg r (h + 1) y lsy) (hy1 : lsy.length = 1) (hfit : ls.length ≤ mostE σ0 x.tag) (ha : a + 1 < ls.length)
  (he : ∀ l ∈ ls, EntOk l) (hs : Step c σ0 σ) (hk : Keep pg0 pg (x.kids.take (a) ++ (x.kids.drop (a + 1) ++ E))) (hI : Inv σ pg (y.kids ++ (x.kids.take (a) ++ (x.kids.drop (a + 1) ++ E)))) (hE : E.length ≤ 30000) (hRm : Room σ 3)
  (hl : l' = (ls.take (a)).flatten ++ (lsy.flatten ++ (ls.drop (a + 1)).flatten)) :
  FnSpec Tryz.prog 103 (appL [.res fun _ => SpaceR b db σ] (appL (ndL q x false) (ndL qy y false))) [.pt fun _ => ⟨b, 0, none⟩, .agg [.int .u8 fun _ => toI 3, .sl 2 (fun _ => q.k.a) (fun _ => 0) (fun _ => x.keys.length) (fun _ => q.k.e), .sl 3 (fun _ => q.v.a) (fun _ => 0) (fun _ => x.vals.length) (fun _ => q.v.e), .sl 1 (fun _ => q.d.a) (fun _ => 0) (fun _ => x.kids.length) (fun _ => q.d.e)], .int .i64 fun _ => toI (a), .agg [.int .u8 fun _ => toI 3, .sl 5 (fun _ => qy.k.a) (fun _ => 0) (fun _ => y.keys.length) (fun _ => qy.k.e), .sl 6 (fun _ => qy.v.a) (fun _ => 0) (fun _ => y.vals.length) (fun _ => qy.v.e), .sl 4 (fun _ => qy.d.a) (fun _ => 0) (fun _ => y.kids.length) (fun _ => qy.d.e)]]
   (JoinR b db q qy x y σ0 pg0 E r (h + 2) l' (c + 2)) := by
 have hkl : x.keys.length = ls.length := by rw [hx.keys, List.length_map]
 have hkk : x.kids.length = ls.length := by rw [hx.kids, if_neg (by omega)]
 have hyk : y.keys.length = 1 := by rw [hy.keys, List.length_map, hy1]
 have hyd : y.kids.length = 1 := by rw [hy.kids, if_neg (by omega), hy1]
 have hyv : y.vals = [] := List.eq_nil_of_length_eq_zero (by rw [hy.vals, if_neg (by omega)])
 have hml := most_hi hI.ok x.tag
 rw [mostE_step hs] at hml
 obtain ⟨_, kn, hkn, hkm, hkr⟩ := hx.inner (c := a + 1) (by omega)
 have hknn : x.kids[a + 1]'(by omega) = kn := by
  rw [List.getD_eq_getElem?_getD, List.getElem?_eq_getElem (by omega)] at hkn
  exact hkn
 obtain ⟨R, hR⟩ : ∃ R, R = x.kids.take a ++ (x.kids.drop (a + 2) ++ E) := ⟨_, rfl⟩
 have hRl : R.length ≤ 31000 := by rw [hR, List.length_append, List.length_append, List.length_take, List.length_drop]; omega
 have hperm : List.Perm (x.kids.take (a) ++ (x.kids.drop (a + 1) ++ E)) (kn :: R) := by
  rw [hR, ← hknn]
  rw [show x.kids.drop (a + 1) = x.kids[a + 1]'(by omega) :: x.kids.drop (a + 2) from (List.getElem_cons_drop ..).symm, List.cons_append]
  exact List.perm_middle
 have hkp2 : Keep pg0 pg (kn :: R) := hk.mono fun m hm => hperm.symm.subset hm
 have hrz : Rep pg r (h + 1) kn (ls[a + 1]'(by omega)) := hkr.keep (hkp2.mono fun m hm => by
  rw [List.mem_singleton] at hm
  subst hm
  exact List.mem_cons_self)
 have hop := tree_open b db kn (h + 1) r σ pg (y.kids ++ R) (ls[a + 1]'(by omega)) ((hI.perm (hperm.append_left _)).perm List.perm_middle) hrz (he _ (List.getElem_mem _)) (by rw [List.length_append]; omega)
 have hz : ∀ (z : Nd) (lsz : List Ent) (σ1 : Sp), NR pg r (h + 1) z lsz → ls[a + 1]'(by omega) = lsz.flatten → least (h + 1) ≤ lsz.length → lsz.length ≤ mostE σ z.tag → Inv σ1 pg (z.kids ++ (y.kids ++ R)) → Step 0 σ σ1 →
   ∃ w n2, w = (⟨3, y.keys ++ z.keys, [], y.kids ++ z.kids⟩ : Nd) ∧ n2 ≤ 2 ∧ 1 ≤ n2 ∧ w.kids.length = w.keys.length ∧ (∀ kg vg dg : Gs, NG 3 kg vg dg w → FnSpec Tryz.prog 96 (psL b db σ1 kg vg dg) [.agg [.int .u8 fun _ => toI 3, gsV 1 kg, gsV 2 vg, gsV 3 dg], .pt fun _ => ⟨b, 0, none⟩] (ShutR b db kg vg dg σ1 pg R r (h + 1) w (lsy ++ lsz) n2)) ∧
   ∀ (σ3 : Sp) (pg3 : PG) (Q : List (Nat × Ent)), Shut σ1 pg R r (h + 1) w (lsy ++ lsz) (lsy ++ lsz).length σ3 pg3 Q → Q.length = n2 → Rem σ0 pg0 E r (h + 2) l' (c + 2) σ3 pg3 ⟨3, swapL (swapL x.keys (a + 1) []) a (Q.map fun q => hd q.2), [], swapL (swapL x.kids (a + 1) []) a (Q.map fun q => q.1)⟩ (swapL (swapL ls (a + 1) []) a (Q.map fun q => q.2)) := by
  intro z lsz σ1 z1 z2 z3 z4 z5 z6
  have hN := NR.app hy z1
  obtain ⟨w, hw⟩ : ∃ w, w = (⟨3, y.keys ++ z.keys, [], y.kids ++ z.kids⟩ : Nd) := ⟨_, rfl⟩
  rw [← hw] at hN
  have hw3 : w.tag = 3 := by rw [hw]
  have hz3 : z.tag = 3 := by rw [z1.tag, if_neg (by omega)]
  have hm6 := most6 z5.ok 3
  have hmh := most_hi z5.ok 3
  have hll : (lsy ++ lsz).length = lsz.length + 1 := by rw [List.length_append]; omega
  rw [hz3, ← mostE_step z6] at z4
  have hle : 2 ≤ lsz.length := by unfold least at z3; rw [if_neg (by omega)] at z3; exact z3
  obtain ⟨d1, d2, d3, d4⟩ := cutN_ok (m := (lsy ++ lsz).length) (fit := mostE σ1 3) (by omega) (by omega)
  have hn2 : cutN (lsy ++ lsz).length (mostE σ1 3) ≤ 2 := by
   rcases Nat.lt_or_ge 2 (cutN (lsy ++ lsz).length (mostE σ1 3)) with h | h
   ·have : 2 * mostE σ1 3 ≤ (cutN (lsy ++ lsz).length (mostE σ1 3) - 1) * mostE σ1 3 := Nat.mul_le_mul_right _ (by omega)
    omega
   ·exact h
  have hIw : Inv σ1 pg (w.kids ++ R) := by
   refine z5.perm ?_
   rw [hw]
   show List.Perm _ ((y.kids ++ z.kids) ++ R)
   rw [List.append_assoc]
   exact List.perm_append_comm_assoc _ _ _
  have hwl : w.keys.length = (lsy ++ lsz).length := by rw [hN.keys, List.length_map]
  have hwk : w.kids.length = (lsy ++ lsz).length := by rw [hN.kids, if_neg (by omega)]
  refine ⟨w, cutN (lsy ++ lsz).length (mostE σ1 3), hw, hn2, d1, by omega, fun kg vg dg hg => shut_any b db 3 (h + 1) (cutN (lsy ++ lsz).length (mostE σ1 3)) r σ1 pg R kg vg dg w (lsy ++ lsz) hg hN (by unfold least; rw [if_neg (by omega)]; omega) (by omega) rfl hIw ((Room.step (j := 0) (k := 3) hRm z6).le (by omega)), fun σ3 pg3 Q hS hQ => ?_⟩
  obtain ⟨u1, u2, u3⟩ := hS.up (by omega)
  have hst : Step (c + 2) σ0 σ3 := ((hs.trans z6).trans hS.step).le (by omega)
  refine rem_join hx (by omega) hfit hst ?_ hS.rep (by rw [← hR]; exact u2) (by omega) (by omega) ?_
  ·rw [← hR]
   exact (hkp2.mono fun m hm => List.mem_cons_of_mem _ hm).trans (hS.keep.mono fun m hm => List.mem_append_right _ hm)
  ·rw [u3, List.flatten_append, hl]
   rw [show ls.drop (a + 1) = ls[a + 1]'(by omega) :: ls.drop (a + 2) from (List.getElem_cons_drop ..).symm, List.flatten_cons, z2]
   simp only [List.append_assoc]
 obtain ⟨c2, hc2⟩ : ∃ c2, c2 = c + 2 := ⟨_, rfl⟩
 obtain ⟨h2, hh2⟩ : ∃ h2, h2 = h + 2 := ⟨_, rfl⟩
 rw [← hc2, ← hh2] at hz ⊢
 obtain ⟨i, hi⟩ : ∃ i, i = a := ⟨_, rfl⟩
 rw [← hi]
 have hkt : x.kids.getD (0 + (toI i + 1).toNat) 0 = kn := by
  rw [show 0 + (toI i + 1).toNat = a + 1 by exact om]
  exact hkn
 refine spec_cl mixed F103 rfl rfl rfl (fun Γ hΓ hb => ?_)
 cbv
 intro b5 b7 b8
 cbv
 refine .mk rf ?_
 cbv
 refine .no (eqF om) ?_
 cbv
 repeat ((first | refine VC.mk rf ?_ | refine ADD.mk rf ?_); cbv)
 rw [hkt]
 refine cP hΓ (hop) [0] ?_
 rintro x hp' ⟨qz, z, lsz, σ1, rfl, rfl, g1, g2, g3, g4, g5, g6, g7, g8⟩
 refine ⟨rfl, ?_⟩
 cbv
 intro b11
 cbv
 refine .no (neF rfl) ?_
 cbv
 have hz3 : z.tag = 3 := by rw [g1.tag, if_neg (by omega)]
 have hzv : z.vals = [] := List.eq_nil_of_length_eq_zero (by rw [g1.vals, if_neg (by omega)])
 have hzk : z.keys.length = lsz.length := by rw [g1.keys, List.length_map]
 have hzd : z.kids.length = lsz.length := by rw [g1.kids, if_neg (by omega)]
 obtain ⟨w, n2, hw, m1, m2, m3, m4, m5⟩ := hz z lsz σ1 g1 g2 g3 g6 g7 g8
 rw [hz3]
 refine .no (decide_eq_false om) ?_
 cbv
 have hc1 := clone_u64 qy.k.ad qy.k.a y.keys.length qy.k.e 0 y.keys.length qy.k.e y.keys rfl (by omega) (by omega)
 rw [subl_all _ _ rfl] at hc1
 have hc2 := clone_u32 qy.d.ad qy.d.a y.kids.length qy.d.e 0 y.kids.length qy.d.e y.kids rfl (by omega) (by omega)
 rw [subl_all _ _ rfl] at hc2
 refine cP hΓ (hc1) [5] ?_
 rintro x hp' ⟨a1, ad1, e1, rfl, rfl⟩
 refine ⟨rfl, ?_⟩
 cbv
 repeat (refine VC.mk (by first | rfl | exact rf) ?_; cbv)
 refine .any (VC.mk rf fun a2 ad2 e2 hx2 => ?_)
 cbv
 repeat (refine VC.mk (by first | rfl | exact rf) ?_; cbv)
 refine cP hΓ (hc2) [4] ?_
 rintro x hp' ⟨a3, ad3, e3, rfl, rfl⟩
 refine ⟨rfl, ?_⟩
 cbv
 repeat (refine VC.mk (by first | rfl | exact rf) ?_; cbv)
 refine .any (VC.mk rf fun a4 ad4 e4 hx4 => ?_)
 cbv
 repeat (refine VC.mk (by first | rfl | exact rf) ?_; cbv)
 have hng : NG 3 ⟨ad2, 0, y.keys.length + z.keys.length, e2, a2, y.keys.length + z.keys.length, e2, List.take y.keys.length (List.drop 0 y.keys) ++ List.take z.keys.length (List.drop 0 z.keys)⟩ (gv qy y) ⟨ad4, 0, y.kids.length + z.kids.length, e4, a4, y.kids.length + z.kids.length, e4, List.take y.kids.length (List.drop 0 y.kids) ++ List.take z.kids.length (List.drop 0 z.kids)⟩ w :=
  ⟨⟨Nat.le_of_eq (Nat.zero_add _), by simp⟩, ⟨Nat.le_of_eq (Nat.zero_add _), rfl⟩, ⟨Nat.le_of_eq (Nat.zero_add _), by simp⟩, by rw [hw]; unfold gNd gv; simp [subl, hyv]; exact ⟨(List.take_of_length_le (by simp)).symm, (List.take_of_length_le (by simp)).symm⟩⟩
 refine cP hΓ (m4 _ _ _ hng) [0, 15, 6, 17] ?_
 rintro x hp' ⟨σ3, pg3, Q, a5, ad5, a6, ad6, e5, e6, rfl, rfl, hS, hQ⟩
 refine ⟨rfl, ?_⟩
 cbv
 have hrem := m5 σ3 pg3 Q hS hQ
 have hls2 : 2 ≤ ls.length := by omega
 obtain ⟨K1, hK1⟩ : ∃ K1, K1 = swapL x.keys (a + 1) [] := ⟨_, rfl⟩
 obtain ⟨D1, hD1⟩ : ∃ D1, D1 = swapL x.kids (a + 1) [] := ⟨_, rfl⟩
 have hK1l : K1.length = ls.length - 1 := by rw [hK1, swap_len _ _ _ (by omega), List.length_nil]; omega
 have hD1l : D1.length = ls.length - 1 := by rw [hD1, swap_len _ _ _ (by omega), List.length_nil]; omega
 have hw1 := with_ok b5 3 (a + 1) 0 q x ⟨3, K1, x.vals, D1⟩ [] [] none none none none 0 0 rfl rfl (by omega) (by omega) (by omega) (by omega) (by omega) hK1 hD1
 have hw2 := fun (b1 bd1 b2 bd2 : Option Addr) (f1 f2 : Nat) => with_ok b5 3 a n2 ⟨⟨b1, bd1, f1⟩, q.v, ⟨b2, bd2, f2⟩⟩ ⟨3, K1, x.vals, D1⟩ ⟨3, swapL K1 a (Q.map fun q => hd q.2), [], swapL D1 a (Q.map fun q => q.1)⟩ (Q.map fun q => hd q.2) (Q.map fun q => q.1) a5 ad5 a6 ad6 e5 e6 (by rw [List.length_map, hQ]) (by rw [List.length_map, hQ]) (by show D1.length = K1.length; omega) (by show K1.length ≤ 1000; omega) (by omega) (by show a < K1.length; omega) (by show a + 1 = K1.length ∨ a + n2 ≤ K1.length; omega) rfl rfl
 rw [← hK1, ← hD1] at hrem
 obtain ⟨x', hx'⟩ : ∃ x' : Nd, x' = ⟨3, swapL K1 a (Q.map fun q => hd q.2), [], swapL D1 a (Q.map fun q => q.1)⟩ := ⟨_, rfl⟩
 rw [← hx'] at hrem hw2
 refine callP_nil [.nat .u64] (args' := [.bp 7 0, .int .i64 fun _ => toI (a + 1), .sl 20 (fun _ => none) (fun _ => 0) (fun _ => 0) (fun _ => 0), .nils]) rfl (by cbv; exact rf) ?_
 refine callP_nil [.nat .u32] (args' := [.bp 7 0, .int .i64 fun _ => toI (a + 1), .sl 20 (fun _ => none) (fun _ => 0) (fun _ => 0) (fun _ => 0), .sl 21 (fun _ => none) (fun _ => 0) (fun _ => 0) (fun _ => 0)]) rfl (by cbv; exact rf) ?_
 cbv
 refine cP hΓ (hw1) [7, 1, 2, 3, 20, 21] ?_
 rintro x hp' ⟨c1, cd1, c2', cd2, f1, f2, rfl, rfl⟩
 refine ⟨rfl, ?_⟩
 cbv
 rw [show (if toI i + 1 < toI i then toI i + 1 else toI i) = toI a by split <;> exact om]
 refine cP hΓ (hw2 c1 cd1 c2' cd2 f1 f2) [7, 23, 22, 3, 18, 19] ?_
 rintro x hp' ⟨d1, dd1, d2, dd2, i1, i2, rfl, rfl⟩
 refine ⟨rfl, ?_⟩
 cbv
 refine Cl.by (v' := .tup [.agg [.int .u8 fun _ => toI 3, .sl 7 (fun _ => d1) (fun _ => 0) (fun _ => x'.keys.length) (fun _ => i1), .sl 3 (fun _ => q.v.a) (fun _ => 0) (fun _ => x.vals.length) (fun _ => q.v.e), .sl 8 (fun _ => d2) (fun _ => 0) (fun _ => x'.kids.length) (fun _ => i2)], .int .i64 fun _ => 0])
  (hp' := appL (appL [.res fun _ => SpaceR b db σ3] (appL (ndL q x false) (ndL qy y false))) [.arr dd1 (fun _ => x'.keys.length) (fun _ => i1) [.nat .u64 fun _ => x'.keys] true, .arr dd2 (fun _ => x'.kids.length) (fun _ => i2) [.nat .u32 fun _ => x'.kids] true])
  [.one 0, .one 1, .one 2, .one 3, .one 4, .one 5, .one 6, .one 24, .one 25] 7 hb rfl rfl (nodup_of rfl) rfl ?_ rfl ?_ ⟨d1, dd1, d2, dd2, i1, i2, x', _, σ3, pg3, rfl, rfl, hrem, by rw [hx'], by rw [hx']⟩
 ·cbv
  exact rf
 ·cbv
  exact rf
set_option maxHeartbeats 2000000 in
theorem join_left (b db h a c : Nat) (r : Bool) (σ0 σ : Sp) (pg0 pg : PG) (E : List Nat) (q qy : NQ) (x y : Nd) (ls lsy : List Ent) (l' : Ent) (hx : NR pg0 r (h + 2) x ls) (hy : NR pg r (h + 1) y lsy) (hy1 : lsy.length = 1) (hfit : ls.length ≤ mostE σ0 x.tag) (ha : ls.length = a + 2)
  (he : ∀ l ∈ ls, EntOk l) (hs : Step c σ0 σ) (hk : Keep pg0 pg (x.kids.take (a + 1) ++ (x.kids.drop (a + 1 + 1) ++ E))) (hI : Inv σ pg (y.kids ++ (x.kids.take (a + 1) ++ (x.kids.drop (a + 1 + 1) ++ E)))) (hE : E.length ≤ 30000) (hRm : Room σ 3)
  (hl : l' = (ls.take (a + 1)).flatten ++ (lsy.flatten ++ (ls.drop (a + 1 + 1)).flatten)) :
  FnSpec Tryz.prog 103 (appL [.res fun _ => SpaceR b db σ] (appL (ndL q x false) (ndL qy y false))) [.pt fun _ => ⟨b, 0, none⟩, .agg [.int .u8 fun _ => toI 3, .sl 2 (fun _ => q.k.a) (fun _ => 0) (fun _ => x.keys.length) (fun _ => q.k.e), .sl 3 (fun _ => q.v.a) (fun _ => 0) (fun _ => x.vals.length) (fun _ => q.v.e), .sl 1 (fun _ => q.d.a) (fun _ => 0) (fun _ => x.kids.length) (fun _ => q.d.e)], .int .i64 fun _ => toI (a + 1), .agg [.int .u8 fun _ => toI 3, .sl 5 (fun _ => qy.k.a) (fun _ => 0) (fun _ => y.keys.length) (fun _ => qy.k.e), .sl 6 (fun _ => qy.v.a) (fun _ => 0) (fun _ => y.vals.length) (fun _ => qy.v.e), .sl 4 (fun _ => qy.d.a) (fun _ => 0) (fun _ => y.kids.length) (fun _ => qy.d.e)]]
   (JoinR b db q qy x y σ0 pg0 E r (h + 2) l' (c + 2)) := by
 have hkl : x.keys.length = ls.length := by rw [hx.keys, List.length_map]
 have hkk : x.kids.length = ls.length := by rw [hx.kids, if_neg (by omega)]
 have hyk : y.keys.length = 1 := by rw [hy.keys, List.length_map, hy1]
 have hyd : y.kids.length = 1 := by rw [hy.kids, if_neg (by omega), hy1]
 have hyv : y.vals = [] := List.eq_nil_of_length_eq_zero (by rw [hy.vals, if_neg (by omega)])
 have hml := most_hi hI.ok x.tag
 rw [mostE_step hs] at hml
 obtain ⟨_, kn, hkn, hkm, hkr⟩ := hx.inner (c := a) (by omega)
 have hknn : x.kids[a]'(by omega) = kn := by
  rw [List.getD_eq_getElem?_getD, List.getElem?_eq_getElem (by omega)] at hkn
  exact hkn
 obtain ⟨R, hR⟩ : ∃ R, R = x.kids.take a ++ (x.kids.drop (a + 2) ++ E) := ⟨_, rfl⟩
 have hRl : R.length ≤ 31000 := by rw [hR, List.length_append, List.length_append, List.length_take, List.length_drop]; omega
 have hperm : List.Perm (x.kids.take (a + 1) ++ (x.kids.drop (a + 1 + 1) ++ E)) (kn :: R) := by
  rw [hR, ← hknn]
  rw [show x.kids.take (a + 1) = x.kids.take a ++ [x.kids[a]'(by omega)] from List.take_succ_eq_append_getElem (by omega), List.append_assoc]
  exact List.perm_middle
 have hkp2 : Keep pg0 pg (kn :: R) := hk.mono fun m hm => hperm.symm.subset hm
 have hrz : Rep pg r (h + 1) kn (ls[a]'(by omega)) := hkr.keep (hkp2.mono fun m hm => by
  rw [List.mem_singleton] at hm
  subst hm
  exact List.mem_cons_self)
 have hop := tree_open b db kn (h + 1) r σ pg (y.kids ++ R) (ls[a]'(by omega)) ((hI.perm (hperm.append_left _)).perm List.perm_middle) hrz (he _ (List.getElem_mem _)) (by rw [List.length_append]; omega)
 have hz : ∀ (z : Nd) (lsz : List Ent) (σ1 : Sp), NR pg r (h + 1) z lsz → ls[a]'(by omega) = lsz.flatten → least (h + 1) ≤ lsz.length → lsz.length ≤ mostE σ z.tag → Inv σ1 pg (z.kids ++ (y.kids ++ R)) → Step 0 σ σ1 →
   ∃ w n2, w = (⟨3, z.keys ++ y.keys, [], z.kids ++ y.kids⟩ : Nd) ∧ n2 ≤ 2 ∧ 1 ≤ n2 ∧ w.kids.length = w.keys.length ∧ (∀ kg vg dg : Gs, NG 3 kg vg dg w → FnSpec Tryz.prog 96 (psL b db σ1 kg vg dg) [.agg [.int .u8 fun _ => toI 3, gsV 1 kg, gsV 2 vg, gsV 3 dg], .pt fun _ => ⟨b, 0, none⟩] (ShutR b db kg vg dg σ1 pg R r (h + 1) w (lsz ++ lsy) n2)) ∧
   ∀ (σ3 : Sp) (pg3 : PG) (Q : List (Nat × Ent)), Shut σ1 pg R r (h + 1) w (lsz ++ lsy) (lsz ++ lsy).length σ3 pg3 Q → Q.length = n2 → Rem σ0 pg0 E r (h + 2) l' (c + 2) σ3 pg3 ⟨3, swapL (swapL x.keys (a + 1) []) a (Q.map fun q => hd q.2), [], swapL (swapL x.kids (a + 1) []) a (Q.map fun q => q.1)⟩ (swapL (swapL ls (a + 1) []) a (Q.map fun q => q.2)) := by
  intro z lsz σ1 z1 z2 z3 z4 z5 z6
  have hN := NR.app z1 hy
  obtain ⟨w, hw⟩ : ∃ w, w = (⟨3, z.keys ++ y.keys, [], z.kids ++ y.kids⟩ : Nd) := ⟨_, rfl⟩
  rw [← hw] at hN
  have hw3 : w.tag = 3 := by rw [hw]
  have hz3 : z.tag = 3 := by rw [z1.tag, if_neg (by omega)]
  have hm6 := most6 z5.ok 3
  have hmh := most_hi z5.ok 3
  have hll : (lsz ++ lsy).length = lsz.length + 1 := by rw [List.length_append]; omega
  rw [hz3, ← mostE_step z6] at z4
  have hle : 2 ≤ lsz.length := by unfold least at z3; rw [if_neg (by omega)] at z3; exact z3
  obtain ⟨d1, d2, d3, d4⟩ := cutN_ok (m := (lsz ++ lsy).length) (fit := mostE σ1 3) (by omega) (by omega)
  have hn2 : cutN (lsz ++ lsy).length (mostE σ1 3) ≤ 2 := by
   rcases Nat.lt_or_ge 2 (cutN (lsz ++ lsy).length (mostE σ1 3)) with h | h
   ·have : 2 * mostE σ1 3 ≤ (cutN (lsz ++ lsy).length (mostE σ1 3) - 1) * mostE σ1 3 := Nat.mul_le_mul_right _ (by omega)
    omega
   ·exact h
  have hIw : Inv σ1 pg (w.kids ++ R) := by
   refine z5.perm ?_
   rw [hw]
   show List.Perm _ ((z.kids ++ y.kids) ++ R)
   rw [List.append_assoc]
   all_goals exact List.Perm.refl _
  have hwl : w.keys.length = (lsz ++ lsy).length := by rw [hN.keys, List.length_map]
  have hwk : w.kids.length = (lsz ++ lsy).length := by rw [hN.kids, if_neg (by omega)]
  refine ⟨w, cutN (lsz ++ lsy).length (mostE σ1 3), hw, hn2, d1, by omega, fun kg vg dg hg => shut_any b db 3 (h + 1) (cutN (lsz ++ lsy).length (mostE σ1 3)) r σ1 pg R kg vg dg w (lsz ++ lsy) hg hN (by unfold least; rw [if_neg (by omega)]; omega) (by omega) rfl hIw ((Room.step (j := 0) (k := 3) hRm z6).le (by omega)), fun σ3 pg3 Q hS hQ => ?_⟩
  obtain ⟨u1, u2, u3⟩ := hS.up (by omega)
  have hst : Step (c + 2) σ0 σ3 := ((hs.trans z6).trans hS.step).le (by omega)
  refine rem_join hx (by omega) hfit hst ?_ hS.rep (by rw [← hR]; exact u2) (by omega) (by omega) ?_
  ·rw [← hR]
   exact (hkp2.mono fun m hm => List.mem_cons_of_mem _ hm).trans (hS.keep.mono fun m hm => List.mem_append_right _ hm)
  ·rw [u3, List.flatten_append, hl]
   rw [show ls.take (a + 1) = ls.take a ++ [ls[a]'(by omega)] from List.take_succ_eq_append_getElem (by omega), List.flatten_append, List.flatten_singleton, z2]
   simp only [List.append_assoc]
 obtain ⟨c2, hc2⟩ : ∃ c2, c2 = c + 2 := ⟨_, rfl⟩
 obtain ⟨h2, hh2⟩ : ∃ h2, h2 = h + 2 := ⟨_, rfl⟩
 rw [← hc2, ← hh2] at hz ⊢
 obtain ⟨i, hi⟩ : ∃ i, i = a + 1 := ⟨_, rfl⟩
 rw [← hi]
 have hkt : x.kids.getD (0 + (toI i - 1).toNat) 0 = kn := by
  rw [show 0 + (toI i - 1).toNat = a by exact om]
  exact hkn
 refine spec_cl mixed F103 rfl rfl rfl (fun Γ hΓ hb => ?_)
 cbv
 intro b5 b7 b8
 cbv
 refine .mk rf ?_
 cbv
 refine .yes (eqT om) ?_
 cbv
 refine .mk rf ?_
 cbv
 repeat ((first | refine VC.mk rf ?_ | refine ADD.mk rf ?_); cbv)
 rw [hkt]
 refine cP hΓ (hop) [0] ?_
 rintro x hp' ⟨qz, z, lsz, σ1, rfl, rfl, g1, g2, g3, g4, g5, g6, g7, g8⟩
 refine ⟨rfl, ?_⟩
 cbv
 intro b11
 cbv
 refine .no (neF rfl) ?_
 cbv
 have hz3 : z.tag = 3 := by rw [g1.tag, if_neg (by omega)]
 have hzv : z.vals = [] := List.eq_nil_of_length_eq_zero (by rw [g1.vals, if_neg (by omega)])
 have hzk : z.keys.length = lsz.length := by rw [g1.keys, List.length_map]
 have hzd : z.kids.length = lsz.length := by rw [g1.kids, if_neg (by omega)]
 obtain ⟨w, n2, hw, m1, m2, m3, m4, m5⟩ := hz z lsz σ1 g1 g2 g3 g6 g7 g8
 rw [hz3]
 refine .yes (decide_eq_true om) ?_
 cbv
 have hc1 := clone_u64 qz.k.ad qz.k.a z.keys.length qz.k.e 0 z.keys.length qz.k.e z.keys rfl (by omega) (by omega)
 rw [subl_all _ _ rfl] at hc1
 have hc2 := clone_u32 qz.d.ad qz.d.a z.kids.length qz.d.e 0 z.kids.length qz.d.e z.kids rfl (by omega) (by omega)
 rw [subl_all _ _ rfl] at hc2
 refine cP hΓ (hc1) [11] ?_
 rintro x hp' ⟨a1, ad1, e1, rfl, rfl⟩
 refine ⟨rfl, ?_⟩
 cbv
 repeat (refine VC.mk (by first | rfl | exact rf) ?_; cbv)
 refine .any (VC.mk rf fun a2 ad2 e2 hx2 => ?_)
 cbv
 repeat (refine VC.mk (by first | rfl | exact rf) ?_; cbv)
 refine cP hΓ (hc2) [10] ?_
 rintro x hp' ⟨a3, ad3, e3, rfl, rfl⟩
 refine ⟨rfl, ?_⟩
 cbv
 repeat (refine VC.mk (by first | rfl | exact rf) ?_; cbv)
 refine .any (VC.mk rf fun a4 ad4 e4 hx4 => ?_)
 cbv
 repeat (refine VC.mk (by first | rfl | exact rf) ?_; cbv)
 have hng : NG 3 ⟨ad2, 0, z.keys.length + y.keys.length, e2, a2, z.keys.length + y.keys.length, e2, List.take z.keys.length (List.drop 0 z.keys) ++ List.take y.keys.length (List.drop 0 y.keys)⟩ (gv qz z) ⟨ad4, 0, z.kids.length + y.kids.length, e4, a4, z.kids.length + y.kids.length, e4, List.take z.kids.length (List.drop 0 z.kids) ++ List.take y.kids.length (List.drop 0 y.kids)⟩ w :=
  ⟨⟨Nat.le_of_eq (Nat.zero_add _), by simp⟩, ⟨Nat.le_of_eq (Nat.zero_add _), rfl⟩, ⟨Nat.le_of_eq (Nat.zero_add _), by simp⟩, by rw [hw]; unfold gNd gv; simp [subl, hzv]; exact ⟨(List.take_of_length_le (by simp)).symm, (List.take_of_length_le (by simp)).symm⟩⟩
 refine cP hΓ (m4 _ _ _ hng) [0, 15, 12, 17] ?_
 rintro x hp' ⟨σ3, pg3, Q, a5, ad5, a6, ad6, e5, e6, rfl, rfl, hS, hQ⟩
 refine ⟨rfl, ?_⟩
 cbv
 have hrem := m5 σ3 pg3 Q hS hQ
 have hls2 : 2 ≤ ls.length := by omega
 obtain ⟨K1, hK1⟩ : ∃ K1, K1 = swapL x.keys (a + 1) [] := ⟨_, rfl⟩
 obtain ⟨D1, hD1⟩ : ∃ D1, D1 = swapL x.kids (a + 1) [] := ⟨_, rfl⟩
 have hK1l : K1.length = ls.length - 1 := by rw [hK1, swap_len _ _ _ (by omega), List.length_nil]; omega
 have hD1l : D1.length = ls.length - 1 := by rw [hD1, swap_len _ _ _ (by omega), List.length_nil]; omega
 have hw1 := with_ok b5 3 (a + 1) 0 q x ⟨3, K1, x.vals, D1⟩ [] [] none none none none 0 0 rfl rfl (by omega) (by omega) (by omega) (by omega) (by omega) hK1 hD1
 have hw2 := fun (b1 bd1 b2 bd2 : Option Addr) (f1 f2 : Nat) => with_ok b5 3 a n2 ⟨⟨b1, bd1, f1⟩, q.v, ⟨b2, bd2, f2⟩⟩ ⟨3, K1, x.vals, D1⟩ ⟨3, swapL K1 a (Q.map fun q => hd q.2), [], swapL D1 a (Q.map fun q => q.1)⟩ (Q.map fun q => hd q.2) (Q.map fun q => q.1) a5 ad5 a6 ad6 e5 e6 (by rw [List.length_map, hQ]) (by rw [List.length_map, hQ]) (by show D1.length = K1.length; omega) (by show K1.length ≤ 1000; omega) (by omega) (by show a < K1.length; omega) (by show a + 1 = K1.length ∨ a + n2 ≤ K1.length; omega) rfl rfl
 rw [← hK1, ← hD1] at hrem
 obtain ⟨x', hx'⟩ : ∃ x' : Nd, x' = ⟨3, swapL K1 a (Q.map fun q => hd q.2), [], swapL D1 a (Q.map fun q => q.1)⟩ := ⟨_, rfl⟩
 rw [← hx'] at hrem hw2
 refine callP_nil [.nat .u64] (args' := [.bp 7 0, .int .i64 fun _ => toI (a + 1), .sl 20 (fun _ => none) (fun _ => 0) (fun _ => 0) (fun _ => 0), .nils]) rfl (by cbv; exact rf) ?_
 refine callP_nil [.nat .u32] (args' := [.bp 7 0, .int .i64 fun _ => toI (a + 1), .sl 20 (fun _ => none) (fun _ => 0) (fun _ => 0) (fun _ => 0), .sl 21 (fun _ => none) (fun _ => 0) (fun _ => 0) (fun _ => 0)]) rfl (by cbv; exact rf) ?_
 cbv
 refine cP hΓ (hw1) [7, 1, 2, 3, 20, 21] ?_
 rintro x hp' ⟨c1, cd1, c2', cd2, f1, f2, rfl, rfl⟩
 refine ⟨rfl, ?_⟩
 cbv
 rw [show (if toI i - 1 < toI i then toI i - 1 else toI i) = toI a by split <;> exact om]
 refine cP hΓ (hw2 c1 cd1 c2' cd2 f1 f2) [7, 23, 22, 3, 18, 19] ?_
 rintro x hp' ⟨d1, dd1, d2, dd2, i1, i2, rfl, rfl⟩
 refine ⟨rfl, ?_⟩
 cbv
 refine Cl.by (v' := .tup [.agg [.int .u8 fun _ => toI 3, .sl 7 (fun _ => d1) (fun _ => 0) (fun _ => x'.keys.length) (fun _ => i1), .sl 3 (fun _ => q.v.a) (fun _ => 0) (fun _ => x.vals.length) (fun _ => q.v.e), .sl 8 (fun _ => d2) (fun _ => 0) (fun _ => x'.kids.length) (fun _ => i2)], .int .i64 fun _ => 0])
  (hp' := appL (appL [.res fun _ => SpaceR b db σ3] (appL (ndL q x false) (ndL qy y false))) [.arr dd1 (fun _ => x'.keys.length) (fun _ => i1) [.nat .u64 fun _ => x'.keys] true, .arr dd2 (fun _ => x'.kids.length) (fun _ => i2) [.nat .u32 fun _ => x'.kids] true])
  [.one 0, .one 1, .one 2, .one 3, .one 4, .one 5, .one 6, .one 24, .one 25] 7 hb rfl rfl (nodup_of rfl) rfl ?_ rfl ?_ ⟨d1, dd1, d2, dd2, i1, i2, x', _, σ3, pg3, rfl, rfl, hrem, by rw [hx'], by rw [hx']⟩
 ·cbv
  exact rf
 ·cbv
  exact rf
end Go.Proofs.YtfoffehokhkohaaGreat
set_option maxRecDepth 20000
namespace Go.Proofs.YtfoffehokhkohaaGreat
open Go
variable [VPg]
def RemR (b db : Nat) (σ : Sp) (pg : PG) (E : List Nat) (r : Bool) (h : Nat) (l' : Ent) (c : Nat) : KV := fun y hp => ∃ (q : NQ) (x' : Nd) (ls' : List Ent) (σ' : Sp) (pg' : PG), y = .tup [ndV 2 3 1 q x', .int .i64 fun _ => 0] ∧ hp = appL [.res fun _ => SpaceR b db σ'] (ndL q x' true) ∧ Rem σ pg E r h l' c σ' pg' x' ls'
theorem isAt_mem {l : Ent} {k v : Nat} (h : l.Pairwise fun a b => a.1 < b.1) (hm : (k, v) ∈ l) : isAt (l.map (·.1)) k = true := by
 cases hb : isAt (l.map (·.1)) k with
 | true => rfl
 | false =>
  obtain ⟨s1, s2⟩ := ent_split h k
  have h1 := ecut_len h hm
  unfold ecut at h1
  rw [← s1, ← s2, hb] at h1
  have : l.take (wh (l.map (·.1)) k) ++ l.drop (wh (l.map (·.1)) k + if false = true then 1 else 0) = l := List.take_append_drop _ _
  rw [this] at h1
  omega
theorem ecut_maps {l : Ent} {k v : Nat} (f : Nat × Nat → Nat) (h : l.Pairwise fun a b => a.1 < b.1) (hm : (k, v) ∈ l) : (ecut l k).map f = (l.map f).take (wh (l.map (·.1)) k) ++ (l.map f).drop (wh (l.map (·.1)) k + 1) := by
 obtain ⟨s1, s2⟩ := ent_split h k
 rw [isAt_mem h hm] at s2
 unfold ecut
 rw [List.map_append, ← s1, ← s2, List.map_take, List.map_drop]; rfl
set_option maxHeartbeats 2000000 in
theorem remove_leaf (b db n key val : Nat) (σ : Sp) (pg : PG) (E : List Nat) (l : Ent) (hkey : key < 18446744073709551616) (hI : Inv σ pg (n :: E)) (hR : Rep pg false 0 n l) (he : EntOk l) (hm : (key, val) ∈ l) (hE : E.length ≤ 30000) :
  FnSpec Tryz.prog 47 [.res fun _ => SpaceR b db σ] [.pt fun _ => ⟨b, 0, none⟩, .int .u32 fun _ => toI n, .int .u64 fun _ => toI key] (RemR b db σ pg E false 0 (ecut l key) 0) := by
 have hop := tree_open b db n 0 false σ pg E l hI hR he (by omega)
 have hel := ecut_len he.pw hm
 have hk' := ecut_maps (·.1) he.pw hm
 have hv' := ecut_maps (·.2) he.pw hm
 have hat := isAt_mem he.pw hm
 obtain ⟨l', hl'⟩ : ∃ l', l' = ecut l key := ⟨_, rfl⟩
 rw [← hl'] at hel hk' hv' ⊢
 obtain ⟨c0, hc0⟩ : ∃ c0, c0 = 0 := ⟨_, rfl⟩
 refine spec_cl mixed F47 rfl rfl rfl (fun Γ hΓ hb => ?_)
 cbv
 intro b1
 cbv
 refine cP hΓ (hop) [0] ?_
 rintro x hp' ⟨q, x, ls, σ1, rfl, rfl, g1, g2, g3, g4, g5, g6, g7, g8⟩
 refine ⟨rfl, ?_⟩
 cbv
 intro b2
 cbv
 refine .no (neF rfl) ?_
 cbv
 obtain ⟨l1, hls, hxl, hvk⟩ := g1
 have hll : l = l1 := by rw [g2, hls, flatten_single]
 subst hll
 have hlsl : ls.length = l.length := by rw [hls, List.length_map]
 have htag : x.tag = 4 := by rw [hxl]; rfl
 have hkeys : x.keys = l.map (·.1) := by rw [hxl]; rfl
 have hvals : x.vals = l.map (·.2) := by rw [hxl]; rfl
 have hkl : x.keys.length = l.length := by rw [hkeys, List.length_map]
 have hvl : x.vals.length = l.length := by rw [hvals, List.length_map]
 have hno : x.kids = [] := by rw [hxl]; rfl
 have hw := wh_le x.keys key
 have hyes := isAt_get (ks := x.keys) (key := key)
 have hbs := binSearch x.keys.length x.keys.length q.k.e q.k.e key q.k.a q.k.ad x.keys rfl (by omega) (by rw [hkeys]; exact he.srt) hkey (fun k hk => by
  rw [hkeys] at hk
  obtain ⟨e, he2, rfl⟩ := List.mem_map.1 hk
  exact (he.lt e he2).1)
 rw [← hkeys] at hk' hat
 rw [← hvals, ← hkeys] at hv'
 rw [hat] at hbs hyes
 generalize wh x.keys key = i at hbs hw hyes hk' hv'
 obtain ⟨hil, _⟩ := hyes rfl
 have hd1 := delete_u64 q.k.ad q.k.a x.keys.length q.k.e i x.keys rfl (by omega) hil
 have hd2 := delete_u64 q.v.ad q.v.a x.vals.length q.v.e i x.vals rfl (by omega) (by omega)
 obtain ⟨x', hx'⟩ : ∃ x', x' = leafNd false l' := ⟨_, rfl⟩
 have k1 : x'.keys = x.keys.take i ++ x.keys.drop (i + 1) := by rw [hx']; exact hk'
 have k2 : x'.vals = x.vals.take i ++ x.vals.drop (i + 1) := by rw [hx']; exact hv'
 have k3 : x.keys.length - 1 = x'.keys.length := by rw [k1, List.length_append, List.length_take, List.length_drop]; omega
 have k4 : x.vals.length - 1 = x'.vals.length := by rw [k2, List.length_append, List.length_take, List.length_drop]; omega
 have ht' : x'.tag = 4 := by rw [hx']; rfl
 have hno' : x'.kids = [] := by rw [hx']; rfl
 have hnn : x.kids = x'.kids := by rw [hno, hno']
 have hnl : x.kids.length = x'.kids.length := by rw [hnn]
 rw [← k1, k3] at hd1
 rw [← k2, k4] at hd2
 have hadd : toI i + 1 = toI (i + 1) := rfl
 have hIK : (toI i).toNat = i := rfl
 refine cP hΓ (inner_no x.tag (by omega) (gk q x) (gv q x) (gd q x)) [3, 4, 2] ?_
 rintro x hp' ⟨rfl, rfl⟩
 refine ⟨rfl, ?_⟩
 cbv
 refine cP hΓ (hbs) [3] ?_
 rintro x hp' ⟨rfl, rfl⟩
 refine ⟨rfl, ?_⟩
 cbv
 refine .mk rf ?_
 cbv
 rw [hadd]
 refine cP hΓ (hd1) [3] ?_
 rintro x hp' ⟨ka, kad, ke, rfl, rfl⟩
 refine ⟨rfl, ?_⟩
 cbv
 rw [htag]
 refine cP hΓ (refs_no ⟨ka, 0, x'.keys.length, ke, kad, x'.keys.length, ke, x'.keys⟩ (gv q x) (gd q x)) [6, 4, 2] ?_
 rintro x hp' ⟨rfl, rfl⟩
 refine ⟨rfl, ?_⟩
 cbv
 refine .mk rf ?_
 cbv
 rw [hadd]
 refine cP hΓ (hd2) [4] ?_
 rintro x hp' ⟨va, vad, ve, rfl, rfl⟩
 refine ⟨rfl, ?_⟩
 cbv
 refine Cl.by (v' := .tup [ndV 2 3 1 ⟨⟨ka, kad, ke⟩, ⟨va, vad, ve⟩, q.d⟩ x', .int .i64 fun _ => 0]) (hp' := appL [.res fun _ => SpaceR b db σ1] (ndL ⟨⟨ka, kad, ke⟩, ⟨va, vad, ve⟩, q.d⟩ x' true)) [.one 0, .one 2, .one 6, .one 7] 1 hb rfl rfl (nodup_of rfl) rfl ?_ rfl ?_
  ⟨⟨⟨ka, kad, ke⟩, ⟨va, vad, ve⟩, q.d⟩, x', l'.map fun e => [e], σ1, pg, rfl, rfl, ⟨l', rfl, hx', by rw [hno']; simp⟩, flatten_single _, by rw [hno']; rw [hno] at g7; exact g7, Keep.refl _ _, g8, fun h => absurd rfl h, by rw [List.length_map, ht', ← htag]; omega⟩
 ·cbv
  exact rf
 ·cbv
  exact rf
set_option maxHeartbeats 2000000 in
theorem remove_refs (b db n key val : Nat) (σ : Sp) (pg : PG) (E : List Nat) (l : Ent) (hkey : key < 18446744073709551616) (hI : Inv σ pg (n :: E)) (hR : Rep pg true 0 n l) (he : EntOk l) (hm : (key, val) ∈ l) (hE : E.length ≤ 30000) :
  FnSpec Tryz.prog 47 [.res fun _ => SpaceR b db σ] [.pt fun _ => ⟨b, 0, none⟩, .int .u32 fun _ => toI n, .int .u64 fun _ => toI key] (RemR b db σ pg E true 0 (ecut l key) 0) := by
 have hop := tree_open b db n 0 true σ pg E l hI hR he (by omega)
 have hel := ecut_len he.pw hm
 have hk' := ecut_maps (·.1) he.pw hm
 have hv' := ecut_maps (·.2) he.pw hm
 have hat := isAt_mem he.pw hm
 obtain ⟨l', hl'⟩ : ∃ l', l' = ecut l key := ⟨_, rfl⟩
 rw [← hl'] at hel hk' hv' ⊢
 obtain ⟨c0, hc0⟩ : ∃ c0, c0 = 0 := ⟨_, rfl⟩
 refine spec_cl mixed F47 rfl rfl rfl (fun Γ hΓ hb => ?_)
 cbv
 intro b1
 cbv
 refine cP hΓ (hop) [0] ?_
 rintro x hp' ⟨q, x, ls, σ1, rfl, rfl, g1, g2, g3, g4, g5, g6, g7, g8⟩
 refine ⟨rfl, ?_⟩
 cbv
 intro b2
 cbv
 refine .no (neF rfl) ?_
 cbv
 obtain ⟨l1, hls, hxl, hvk⟩ := g1
 have hll : l = l1 := by rw [g2, hls, flatten_single]
 subst hll
 have hlsl : ls.length = l.length := by rw [hls, List.length_map]
 have htag : x.tag = 5 := by rw [hxl]; rfl
 have hkeys : x.keys = l.map (·.1) := by rw [hxl]; rfl
 have hvals : x.kids = l.map (·.2) := by rw [hxl]; rfl
 have hkl : x.keys.length = l.length := by rw [hkeys, List.length_map]
 have hvl : x.kids.length = l.length := by rw [hvals, List.length_map]
 have hno : x.vals = [] := by rw [hxl]; rfl
 have hw := wh_le x.keys key
 have hyes := isAt_get (ks := x.keys) (key := key)
 have hbs := binSearch x.keys.length x.keys.length q.k.e q.k.e key q.k.a q.k.ad x.keys rfl (by omega) (by rw [hkeys]; exact he.srt) hkey (fun k hk => by
  rw [hkeys] at hk
  obtain ⟨e, he2, rfl⟩ := List.mem_map.1 hk
  exact (he.lt e he2).1)
 rw [← hkeys] at hk' hat
 rw [← hvals, ← hkeys] at hv'
 rw [hat] at hbs hyes
 generalize wh x.keys key = i at hbs hw hyes hk' hv'
 obtain ⟨hil, _⟩ := hyes rfl
 have hd1 := delete_u64 q.k.ad q.k.a x.keys.length q.k.e i x.keys rfl (by omega) hil
 have hd2 := delete_u32 q.d.ad q.d.a x.kids.length q.d.e i x.kids rfl (by omega) (by omega)
 obtain ⟨x', hx'⟩ : ∃ x', x' = leafNd true l' := ⟨_, rfl⟩
 have k1 : x'.keys = x.keys.take i ++ x.keys.drop (i + 1) := by rw [hx']; exact hk'
 have k2 : x'.kids = x.kids.take i ++ x.kids.drop (i + 1) := by rw [hx']; exact hv'
 have k3 : x.keys.length - 1 = x'.keys.length := by rw [k1, List.length_append, List.length_take, List.length_drop]; omega
 have k4 : x.kids.length - 1 = x'.kids.length := by rw [k2, List.length_append, List.length_take, List.length_drop]; omega
 have ht' : x'.tag = 5 := by rw [hx']; rfl
 have hno' : x'.vals = [] := by rw [hx']; rfl
 have hnn : x.vals = x'.vals := by rw [hno, hno']
 have hnl : x.vals.length = x'.vals.length := by rw [hnn]
 rw [← k1, k3] at hd1
 rw [← k2, k4] at hd2
 have hadd : toI i + 1 = toI (i + 1) := rfl
 have hIK : (toI i).toNat = i := rfl
 refine cP hΓ (inner_no x.tag (by omega) (gk q x) (gv q x) (gd q x)) [3, 4, 2] ?_
 rintro x hp' ⟨rfl, rfl⟩
 refine ⟨rfl, ?_⟩
 cbv
 refine cP hΓ (hbs) [3] ?_
 rintro x hp' ⟨rfl, rfl⟩
 refine ⟨rfl, ?_⟩
 cbv
 refine .mk rf ?_
 cbv
 rw [hadd]
 refine cP hΓ (hd1) [3] ?_
 rintro x hp' ⟨ka, kad, ke, rfl, rfl⟩
 refine ⟨rfl, ?_⟩
 cbv
 rw [htag]
 have hvk' : ∀ k ∈ x'.kids, pg k = VPg.vp := fun k hk => by
  rw [k2] at hk
  exact hvk k ((List.mem_append.1 hk).elim List.mem_of_mem_take List.mem_of_mem_drop)
 refine cP hΓ (refs_yes 5 (by decide) ⟨ka, 0, x'.keys.length, ke, kad, x'.keys.length, ke, x'.keys⟩ (gv q x) (gd q x)) [6, 4, 2] ?_
 rintro x hp' ⟨rfl, rfl⟩
 refine ⟨rfl, ?_⟩
 cbv
 obtain ⟨kd, hkd⟩ : ∃ kd, x.kids.getD (0 + (toI i).toNat) 0 = kd := ⟨_, rfl⟩
 have hkd2 : x.kids = x.kids.take i ++ (kd :: x.kids.drop (i + 1)) := by
  rw [toI_toNat, Nat.zero_add, List.getD_eq_getElem?_getD, List.getElem?_eq_getElem (by omega)] at hkd
  have : x.kids[i]'(by omega) = kd := hkd
  rw [← this, List.getElem_cons_drop, List.take_append_drop]
 have hI2 : Inv σ1 pg (kd :: (x'.kids ++ E)) := by
  refine g7.perm ?_
  conv => lhs; rw [hkd2]
  rw [k2, List.append_assoc, List.append_assoc]
  exact List.perm_middle
 have hdr := spc_Drop b db kd σ1 pg _ hI2 (by rw [List.length_append]; omega)
 repeat ((first | refine VC.mk rf ?_ | refine ADD.mk rf ?_); cbv)
 rw [hkd]
 refine cP hΓ (hdr) [0] ?_
 rintro x hp' ⟨σ2, rfl, rfl, j1, j2⟩
 refine ⟨rfl, ?_⟩
 cbv
 refine .mk rf ?_
 cbv
 rw [hadd]
 refine cP hΓ (hd2) [2] ?_
 rintro x hp' ⟨va, vad, ve, rfl, rfl⟩
 refine ⟨rfl, ?_⟩
 cbv
 refine Cl.by (v' := .tup [ndV 2 3 1 ⟨⟨ka, kad, ke⟩, q.v, ⟨va, vad, ve⟩⟩ x', .int .i64 fun _ => 0]) (hp' := appL [.res fun _ => SpaceR b db σ2] (ndL ⟨⟨ka, kad, ke⟩, q.v, ⟨va, vad, ve⟩⟩ x' true)) [.one 0, .one 7, .one 6, .one 4] 1 hb rfl rfl (nodup_of rfl) rfl ?_ rfl ?_
  ⟨⟨⟨ka, kad, ke⟩, q.v, ⟨va, vad, ve⟩⟩, x', l'.map fun e => [e], σ2, pg, rfl, rfl, ⟨l', rfl, hx', hvk'⟩, flatten_single _, j1, Keep.refl _ _, (g8.trans j2).le (by omega), fun h => absurd rfl h, by rw [List.length_map, ht', ← htag]; omega⟩
 ·cbv
  exact rf
 ·cbv
  exact rf
end Go.Proofs.YtfoffehokhkohaaGreat
