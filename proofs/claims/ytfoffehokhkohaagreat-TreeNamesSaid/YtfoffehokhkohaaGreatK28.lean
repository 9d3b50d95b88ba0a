/- TreeNames: the chapter's example comes out as it tells: the law answers true (no conditions). -/
import Derived.Test.YtfoffehokhkohaaGreatRows
import Derived.ProofKit
import Derived.Test.YtfoffehokhkohaaGreatK11
import Derived.Test.YtfoffehokhkohaaGreatK12
import Derived.Test.YtfoffehokhkohaaGreatK13
import Derived.Test.YtfoffehokhkohaaGreatK27
set_option linter.all false
set_option maxRecDepth 20000
namespace Go.Proofs.YtfoffehokhkohaaGreat
open Go
variable [VPg]
theorem spc_Audit (b db N sp off len ext : Nat) (a ad : Option Addr) (L : List Nat) (σ : Sp) (pg : PG) (E : List Nat) (hI : Inv σ pg E) (hL : L.length = N) (hof : off + len ≤ N) (hln : len < 1000000) (hE : List.Perm (nz (subl L off len)) E) :
  FnSpec Tryz.prog 21 [.res fun _ => SpaceR b db σ, .arr ad (fun _ => N) (fun _ => sp) [.nat .u32 fun _ => L] false] [.pt fun _ => ⟨b, 0, none⟩, .sl 1 (fun _ => a) (fun _ => off) (fun _ => len) (fun _ => ext)]
   (fun x hp => x = .int .i64 (fun _ => 0) ∧ hp = [.res fun _ => SpaceR b db σ, .arr ad (fun _ => N) (fun _ => sp) [.nat .u32 fun _ => L] false]) := by
 have hs := fun q => space_Audit b db N sp off len ext a ad σ q L pg E hI hL hof (by omega) hE
 refine spec_lift rfl rfl (fun (q : SpQ) => [.gone none 1, .arr ad (fun _ => N) (fun _ => sp) [.nat .u32 fun _ => L] false, .box b q.ty [.pt fun _ => ⟨db, 0, none⟩, .int .u64 fun _ => toI σ.gen, .int .i64 fun _ => toI σ.size, .int .i64 fun _ => toI σ.blocks, .int .u32 fun _ => toI σ.root, .sl 3 (fun _ => q.a) (fun _ => 0) (fun _ => σ.sup.length) (fun _ => q.e), .int .i64 fun _ => toI σ.slot, .pt fun _ => ⟨q.hb, 0, none⟩, .pt fun _ => ⟨q.nb, 0, none⟩, .nilp] true,
  .arr q.ad (fun _ => σ.sup.length) (fun _ => q.e) [.nat .u32 fun _ => σ.sup] true, .res fun _ => CountsR q.hb σ.size σ.blocks σ.held, .res fun _ => CountsR q.nb σ.size σ.blocks σ.now, .res fun _ => DevR db σ.size σ.blocks σ.dur σ.pend])
  (fun _ => [.bp 2 0, .sl 1 (fun _ => a) (fun _ => off) (fun _ => len) (fun _ => ext)]) (fun q => rfl) (fun Γ w h => open_pack (k := 0) h rfl) (fun q Γ hΓ hb => ?_)
 refine cP hΓ (hs q) [2, 3, 4, 5, 6, 1] ?_
 rintro x hp' ⟨rfl, rfl⟩
 refine ⟨rfl, ?_⟩
 cbv
 refine Cl.by (v' := .int .i64 fun _ => 0) (hp' := [.res fun _ => SpaceR b db σ, .arr ad (fun _ => N) (fun _ => sp) [.nat .u32 fun _ => L] false]) [.pack 0 [2, 3, 4, 5, 6], .one 1] 2 hb rfl rfl (nodup_of rfl) rfl ⟨⟨_, _, q, rfl, rfl, rfl, rfl, ?_, rfl⟩, ?_⟩ rfl ?_ ⟨rfl, rfl⟩
 ·cbv
  exact rf
 ·cbv
  exact rf
 ·cbv
  exact rf
def Pages (pg : PG) (E : List Nat) (m : Nat) : Prop := ∃ T : List Nat, T.length ≤ m ∧ (∀ n ∈ E, n ∈ T) ∧ ∀ n ∈ T, ∀ k ∈ (pg n).kids, k ∈ T
theorem Pages.nil (pg : PG) : Pages pg [] 0 := ⟨[], Nat.le_refl _, fun n hn => (by cases hn), fun n hn => by cases hn⟩
theorem Pages.app {pg : PG} {E F : List Nat} {m k : Nat} (h : Pages pg E m) (g : Pages pg F k) : Pages pg (E ++ F) (m + k) := by
 obtain ⟨T, t1, t2, t3⟩ := h
 obtain ⟨U, u1, u2, u3⟩ := g
 exact ⟨T ++ U, by rw [List.length_append]; omega, (Hold.app t2 t3 u2 u3).1, (Hold.app t2 t3 u2 u3).2⟩
theorem Hold.pg {pg : PG} {root : Nat} {l : Ent} (H : Hold pg false root l) : Pages pg (nz [root]) (2 * l.length) := by
 obtain ⟨T, t1, t2, t3⟩ := H.pages (fun h : false = true => absurd h (by simp))
 exact ⟨T, t1, t2, t3⟩
structure Fmt (size blocks k : Nat) (σ : Sp) : Prop where
 bk : σ.blocks = blocks
 gn : σ.gen = 1
 sp : σ.sup.length = superN size blocks
 pd : σ.pend.length ≤ k
theorem Fmt.step {size blocks k j m : Nat} {σ σ' : Sp} (h : Fmt size blocks k σ) (s : Step j σ σ') (hm : k + j ≤ m) : Fmt size blocks m σ' :=
 ⟨s.blocks.trans h.bk, s.gen.trans h.gn, by rw [s.sup]; exact h.sp, by have := s.pend; have := h.pd; omega⟩
theorem Fmt.room {size blocks k m j : Nat} {σ : Sp} {pg : PG} {E : List Nat} (h : Fmt size blocks k σ) (hI : Inv σ pg E) (hp : Pages pg E m) (hb : 2 + 2 * superN size blocks + m + j ≤ blocks) (hk : k + j < 800000000) : Room σ j := by
 obtain ⟨T, t1, t2, t3⟩ := hp
 have := hI.free_ge T t2 t3
 rw [h.bk, h.sp] at this
 exact ⟨by rw [h.sp]; omega, by rw [h.gn]; decide, by have := h.pd; omega⟩
theorem Fmt.start (size blocks : Nat) (dur : List Bytes) : Fmt size blocks 0 (spFmt size blocks dur) := ⟨rfl, rfl, List.length_range', Nat.le_refl _⟩
def MadeR (size blocks : Nat) : KV := fun v hp => ∃ (b db : Nat) (σ : Sp), v = .tup [.pt fun _ => ⟨db, 0, none⟩, .pt fun _ => ⟨b, 0, none⟩] ∧ hp = [.res fun _ => SpaceR b db σ] ∧ Inv σ (fun _ => ⟨0, [], []⟩) [] ∧ Fmt size blocks 0 σ ∧ σ.now = cFmt blocks (superN size blocks) ∧ σ.held = cFmt blocks (superN size blocks)
theorem made_ok (size blocks : Nat) (g : GeoOk size blocks) (hN : 2 + superN size blocks ≤ blocks) (hf : 14 + 4 * superN size blocks ≤ size - 16) (hs : size * blocks ≤ 65536) :
  FnSpec Tryz.prog 10 [] [.agg [.int .i64 fun _ => toI size, .int .i64 fun _ => toI blocks]] (MadeR size blocks) := by
 refine (law_made size blocks g hN hf hs).mono ?_
 rintro v hp ⟨b, db, σ, h1, h2, rfl⟩
 exact ⟨b, db, _, h1, h2, inv_fmt size blocks _ _ g hN hs List.length_replicate, Fmt.start _ _ _, rfl, rfl⟩
theorem made_40 : FnSpec Tryz.prog 10 [] [.agg [.int .i64 fun _ => toI 128, .int .i64 fun _ => toI 40]] (MadeR 128 40) := made_ok 128 40 ⟨by decide, by decide, by decide, by decide, by decide⟩ (by decide) (by decide) (by decide)
theorem EntOk.nil : EntOk [] := ⟨List.Pairwise.nil, fun e h => by cases h⟩
theorem Hold.zero {pg : PG} {r : Bool} {n : Nat} (H : Hold pg r n []) : n = 0 := by
 rcases H with ⟨_, h⟩ | ⟨_, h, H⟩
 ·exact h
 ·exact absurd rfl H.ne
theorem Hold.pos {pg : PG} {r : Bool} {n : Nat} {l : Ent} (H : Hold pg r n l) (h : l ≠ []) : n ≠ 0 := by
 rcases H with ⟨h0, _⟩ | ⟨h0, _⟩
 ·exact absurd h0 h
 ·exact h0
theorem law_lives : FnSpec Tryz.prog 9 [] [] (fun v hp => v = .tt ∧ hp = []) := by
 refine spec_cl mixed F9 rfl rfl rfl (fun Γ hΓ hb => ?_)
 cbv
 refine cP hΓ (law_roomy) [] ?_
 rintro x hp' ⟨rfl, rfl⟩
 refine ⟨rfl, ?_⟩
 cbv
 refine cP hΓ (made_40) [] ?_
 rintro x hp' ⟨b, db, σ, rfl, rfl, hI, hF, _⟩
 refine ⟨rfl, ?_⟩
 cbv
 refine cP hΓ (h_insert (b := b) (db := db) (root := 0) (key := 5) (val := 7) (r := false) (E := []) (l := []) hI (by simp) (Hold.none _ _) EntOk.nil (by simp) (by simp) (hF.room hI (Pages.nil _) (by decide) (by decide)) (by decide) (by decide) (by simp)) [0] ?_
 rintro x hp' ⟨n, σ1, pg1, rfl, rfl, s1, _, hI1, H1⟩
 refine ⟨rfl, ?_⟩
 cbv
 have he1 : EntOk [(5, 7)] := EntOk.nil.put (k := 5) (v := 7) (by decide) (by decide)
 have H1 : Hold pg1 false n [(5, 7)] := H1
 have hF1 := hF.step s1 (Nat.le_refl _)
 have hn0 := H1.pos (by simp)
 refine cP hΓ (h_look_yes (b := b) (db := db) (key := 5) (val := 7) hI1 H1 (fun m hm => List.mem_append_left _ hm) he1 (by simp) (by decide) (by simp)) [0] ?_
 rintro x hp' ⟨rfl, rfl⟩
 refine ⟨rfl, ?_⟩
 cbv
 refine cP hΓ (h_delete (b := b) (db := db) (key := 5) (val := 7) hI1 H1 he1 (by simp) (by simp) (hF1.room hI1 (H1.pg.app (Pages.nil _)) (by decide) (by decide)) (by decide) (by simp)) [0] ?_
 rintro x hp' ⟨n2, σ2, pg2, rfl, rfl, s2, _, hI2, H2⟩
 refine ⟨rfl, ?_⟩
 cbv
 have H2 : Hold pg2 false n2 [] := H2
 have h2 := H2.zero
 subst h2
 refine .yes (eqT rfl) ?_
 cbv
 refine .yes (neT om) ?_
 cbv
 refine .yes (eqT rfl) ?_
 cbv
 refine .yes (eqT rfl) ?_
 cbv
 refine .yes (eqT rfl) ?_
 cbv
 refine .yes (eqT rfl) ?_
 cbv
 refine callP_nil [.nat .u32] (args' := [.pt fun _ => ⟨b, 0, none⟩, .sl 1 (fun _ => none) (fun _ => 0) (fun _ => 0) (fun _ => 0)]) rfl (by cbv; exact rf) ?_
 cbv
 refine cP hΓ (spc_Audit b db 0 0 0 0 0 none none [] σ2 pg2 [] hI2 rfl (by omega) (by omega) (by simp [nz, subl])) [0, 1] ?_
 rintro x hp' ⟨rfl, rfl⟩
 refine ⟨rfl, ?_⟩
 cbv
 refine Cl.den (v' := .tt) ?_ rfl
 exact Cl.tk 0 hb rfl rfl rfl ⟨rfl, rfl⟩
end Go.Proofs.YtfoffehokhkohaaGreat
set_option maxRecDepth 20000
namespace Go.Proofs.YtfoffehokhkohaaGreat
open Go
variable [VPg]
theorem parse_bad (e0 : Nat) (a0 ad0 : Option Addr) (ds : List Nat) :
  FnSpec Tryz.prog 139 [.arr ad0 (fun _ => 0) (fun _ => e0) [.nat .u32 fun _ => ds] true] [.agg [.int .u8 fun _ => toI 9, .sl 0 (fun _ => a0) (fun _ => 0) (fun _ => 0) (fun _ => e0), .str fun _ => []]]
   (fun v hp => v = .tup [.agg [.int .u8 fun _ => 0, .nils, .nils, .nils], .int .i64 fun _ => 10] ∧ hp = [.arr ad0 (fun _ => 0) (fun _ => e0) [.nat .u32 fun _ => ds] true]) := by
 have hw := tree_words [] 0 rfl (by omega) (by simp)
 rw [show ([] : List Nat).flatMap (leB · 8) = [] from rfl] at hw
 refine spec_cl mixed F139 rfl rfl rfl (fun Γ hΓ hb => ?_)
 cbv
 intro b1
 cbv
 intro b2
 cbv
 refine cP hΓ (hw) [] ?_
 rintro x hp' ⟨a, ad, e, rfl, rfl⟩
 refine ⟨rfl, ?_⟩
 cbv
 refine .no (eqF (by decide)) ?_
 cbv
 refine .no (eqF (by decide)) ?_
 cbv
 refine .no (eqF (by decide)) ?_
 cbv
 refine loop1 ?_
 cbv
 refine .no (decide_eq_false om) ?_
 cbv
 exact Cl.tk 1 hb rfl rfl rfl ⟨rfl, rfl⟩
theorem get_bad (b db n : Nat) (σ : Sp) (pg : PG) (hok : SpOk σ) (hlv : live σ n = true) (hh : SpHas σ n (pg n)) (hp : pg n = ⟨9, [], []⟩) :
  FnSpec Tryz.prog 90 [.res fun _ => SpaceR b db σ] [.pt fun _ => ⟨b, 0, none⟩, .int .u32 fun _ => toI n] (fun v hp => v = .tup [.agg [.int .u8 fun _ => 0, .nils, .nils, .nils], .int .i64 fun _ => 10] ∧ hp = [.res fun _ => SpaceR b db σ]) := by
 have hg : FnSpec Tryz.prog 59 [.res fun _ => SpaceR b db σ] [.pt fun _ => ⟨b, 0, none⟩, .int .u32 fun _ => toI n]
   (fun v hp => ∃ (a ad : Option Addr) (e : Nat), v = .tup [.agg [.int .u8 fun _ => toI 9, .sl 1 (fun _ => a) (fun _ => 0) (fun _ => 0) (fun _ => e), .str fun _ => []], .int .i64 fun _ => 0] ∧
    hp = [.res fun _ => SpaceR b db σ, .arr ad (fun _ => 0) (fun _ => e) [.nat .u32 fun _ => []] true]) := by
  have := spc_Get b db n σ (pg n) hok (live_asked hlv) (live_now hlv) hh
  rw [hp] at this
  exact this
 refine spec_cl mixed F90 rfl rfl rfl (fun Γ hΓ hb => ?_)
 cbv
 intro b1
 cbv
 refine cP hΓ (hg) [0] ?_
 rintro x hp' ⟨a, ad, e, rfl, rfl⟩
 refine ⟨rfl, ?_⟩
 cbv
 intro b2
 cbv
 refine .no (neF rfl) ?_
 cbv
 refine cP hΓ (parse_bad e a ad []) [2] ?_
 rintro x hp' ⟨rfl, rfl⟩
 refine ⟨rfl, ?_⟩
 cbv
 exact Cl.tk 1 hb rfl rfl rfl ⟨rfl, rfl⟩
theorem check_bad (b db n : Nat) (σ : Sp) (pg : PG) (hok : SpOk σ) (hlv : live σ n = true) (hh : SpHas σ n (pg n)) (hp : pg n = ⟨9, [], []⟩) :
  FnSpec Tryz.prog 18 [.res fun _ => SpaceR b db σ] [.pt fun _ => ⟨b, 0, none⟩, .int .u32 fun _ => toI n] (fun y hp => y = .int .i64 (fun _ => 10) ∧ hp = [.res fun _ => SpaceR b db σ]) := by
 have hlk : FnSpec Tryz.prog 57 [.res fun _ => SpaceR b db σ] [.pt fun _ => ⟨b, 0, none⟩, .int .u32 fun _ => toI n, .int .i64 fun _ => toI 1, .tt] (fun v hp => v = .tup [.agg [.int .i64 fun _ => 0, .int .u64 fun _ => 0, .int .u64 fun _ => 0, .int .u8 fun _ => 0, .int .i64 fun _ => 0], .int .i64 fun _ => 10] ∧ hp = [.res fun _ => SpaceR b db σ]) := by
  have hget := get_bad b db n σ pg hok hlv hh hp
  refine spec_cl mixed F57 rfl rfl rfl (fun Γ hΓ hb => ?_)
  cbv
  intro b1
  cbv
  refine cP hΓ (hget) [0] ?_
  rintro x hp' ⟨rfl, rfl⟩
  refine ⟨rfl, ?_⟩
  cbv
  intro b2
  cbv
  refine .yes (neT (by decide)) ?_
  cbv
  exact Cl.tk 1 hb rfl rfl rfl ⟨rfl, rfl⟩
 have h0 := (asked_lt (live_asked hlv)).1
 refine spec_cl mixed F18 rfl rfl rfl (fun Γ hΓ hb => ?_)
 cbv
 refine .no (eqF om) ?_
 cbv
 refine cP hΓ (hlk) [0] ?_
 rintro x hp' ⟨rfl, rfl⟩
 refine ⟨rfl, ?_⟩
 cbv
 intro b1
 cbv
 exact Cl.tk 1 hb rfl rfl rfl ⟨rfl, rfl⟩
theorem put_page (b db : Nat) (σ : Sp) (pg : PG) (E : List Nat) (tag : Nat) (d : Bytes) (hI : Inv σ pg E) (ht : 3 ≤ tag ∧ tag < 256) (hd : d.length ≤ 1) (hRm : Room σ 1) :
  FnSpec Tryz.prog 16 [.res fun _ => SpaceR b db σ] [.pt fun _ => ⟨b, 0, none⟩, .agg [.int .u8 fun _ => toI tag, .nils, .str fun _ => d]]
   (fun v hp => ∃ (n : Nat) (σ' : Sp) (pg' : PG), v = .tup [.int .u32 fun _ => toI n, .int .i64 fun _ => 0] ∧ hp = [.res fun _ => SpaceR b db σ'] ∧ Inv σ' pg' (n :: E) ∧ Step 1 σ σ' ∧ Keep pg pg' E ∧ pg' n = ⟨tag, [], d⟩ ∧ n < 4294967296 ∧ n ≠ 0) := by
 have hs := hI.ok.geo.h1
 have h1 := spc_Put b db 0 0 0 0 0 none none [] σ ⟨tag, [], d⟩ pg E hI ⟨by show 3 ≤ tag; omega, ht.2, by show 0 < 65536; decide, by show 2 + 0 + d.length ≤ _; omega, fun n hn => by cases hn⟩ rfl (by omega) rfl rfl (by have := hRm.fr; omega) hRm.gen (by have := hRm.pend; omega)
 refine spec_lift rfl rfl (α := Unit) (fun _ => [.res fun _ => SpaceR b db σ, nilA [.nat .u32]]) (fun _ => [.pt fun _ => ⟨b, 0, none⟩, .agg [.int .u8 fun _ => toI tag, .sl 1 (fun _ => none) (fun _ => 0) (fun _ => 0) (fun _ => 0), .str fun _ => d]]) (fun q => rfl) (fun Γ w h => ⟨(), h.pushN [.nat .u32]⟩) (fun q Γ hΓ hb => ?_)
 refine cP hΓ (h1) [0, 1] ?_
 rintro x hp' ⟨n, σ', pg', rfl, rfl, g1, g2, g3, g4⟩
 refine ⟨rfl, ?_⟩
 cbv
 have g5 := asked_lt (g1.ext n List.mem_cons_self)
 have g6 := g1.ok.b4
 exact Cl.tk 1 hb rfl rfl rfl ⟨n, σ', pg', rfl, rfl, g1, g2, g3, g4, by omega, by omega⟩
theorem Hold.pgr {pg : PG} {root : Nat} {l : Ent} (H : Hold pg true root l) (hk : VPg.vp.kids = []) : Pages pg (nz [root]) (3 * l.length) := by
 have hv : ∀ v ∈ l.map (·.2), (pg v).kids = [] := by
  rcases id H with ⟨rfl, _⟩ | ⟨_, h, H'⟩
  ·intro v hv; cases hv
  ·intro v hv; rw [H'.values v hv, hk]
 obtain ⟨T, t1, t2, t3⟩ := H.pages fun _ => hv
 exact ⟨T, t1, t2, t3⟩
theorem Hold.tags {pg : PG} {root : Nat} {l : Ent} (H : Hold pg false root l) {m : Nat} (h : Rch pg (nz [root]) m) : (pg m).tag = 3 ∨ (pg m).tag = 4 := by
 rcases H with ⟨_, rfl⟩ | ⟨h0, k, H⟩
 ·obtain ⟨n, hn, _⟩ := h.one
  cases hn
 ·rw [nz1 h0] at h
  exact H.tags m h
def BuildH (b db : Nat) (k v : Gs) (σ : Sp) (pg : PG) (E : List Nat) (l : Ent) (c : Nat) : KV := fun y hp => ∃ (n : Nat) (σ' : Sp) (pg' : PG),
 y = .tup [.int .u32 fun _ => toI n, .int .i64 fun _ => 0] ∧ hp = [.res fun _ => SpaceR b db σ', gsL .u64 k, gsL .u64 v] ∧ Step c σ σ' ∧ Keep pg pg' E ∧ Inv σ' pg' (nz [n] ++ E) ∧ Hold pg' false n l
theorem h_build (b db : Nat) (σ : Sp) (pg : PG) (E : List Nat) (k v : Gs) (l : Ent) (hg : NG 4 k v nilG (leafNd false l)) (he : EntOk l) (hn : l.length ≤ 100) (hI : Inv σ pg E) (hRm : Room σ (l.length + 2)) :
  FnSpec Tryz.prog 15 [.res fun _ => SpaceR b db σ, gsL .u64 k, gsL .u64 v] [.pt fun _ => ⟨b, 0, none⟩, .ff, gsV 1 k, gsV 2 v] (BuildH b db k v σ pg E l (l.length + 1)) := by
 have hc : 2 * cutN l.length (mostE σ 4) ≤ l.length + 1 := by
  have h6 := most6 hI.ok 4
  rcases Nat.lt_or_ge 1 l.length with h | h
  ·have := cutN_half (n := l.length) (f := mostE σ 4) h h6
   omega
  ·rcases Nat.eq_zero_or_pos l.length with h0 | h0
   ·rw [h0]; unfold cutN; rw [Nat.zero_add, Nat.div_eq_of_lt (by omega)]; omega
   ·obtain ⟨c1, c2, c3, c4⟩ := cutN_ok (m := l.length) (fit := mostE σ 4) h0 (by omega)
    omega
 refine (tree_Build b db _ σ pg E k v l hg he (by omega) hI rfl (hRm.le (by omega))).mono ?_
 rintro y hp ⟨n, σ', pg', h1, h2, h3, h4, ⟨h5, h6, h7⟩ | ⟨h, h5, h6⟩⟩
 ·subst h6
  exact ⟨0, σ', pg', h1, h2, h3.le hc, h4, h7, .inl ⟨h5, rfl⟩⟩
 ·have h0 : n ≠ 0 := by have := (asked_lt (live_asked (h5.live_ext List.mem_cons_self))).1; omega
  exact ⟨n, σ', pg', h1, h2, h3.le hc, h4, by rw [nz1 h0]; exact h5, .inr ⟨h0, h, h6⟩⟩
theorem Rep.reach {pg : PG} : ∀ {h n : Nat} {l : Ent}, Rep pg true h n l → ∀ v ∈ l.map (·.2), Rch pg [n] v
 | 0, n, l, ⟨x, ls, ⟨l1, h0, h1, hv⟩, h4, h5, h6⟩ => by
  rw [h0, flatten_single] at h5
  subst h5
  intro v hm
  exact .kid (.root (List.mem_singleton.2 rfl)) (by rw [h4, h1]; exact hm)
 | h + 1, n, l, ⟨x, ls, ⟨ks, h1, h2, h3⟩, h4, h5, h6⟩ => by
  subst h5
  intro v hm
  obtain ⟨e, he, rfl⟩ := List.mem_map.1 hm
  obtain ⟨m, hm1, hm2⟩ := List.mem_flatten.1 he
  obtain ⟨i, hi⟩ := List.mem_iff_getElem?.1 hm1
  have hil : i < ls.length := (List.getElem?_eq_some_iff.1 hi).1
  refine ((h3 (ks[i], m) (mem_zip (List.getElem?_eq_getElem (by omega)) hi)).reach _ (List.mem_map_of_mem (f := (·.2)) hm2)).to fun k hk => ?_
  rw [List.mem_singleton.1 hk]
  exact .kid (.root (List.mem_singleton.2 rfl)) (by rw [h4, h1]; exact List.getElem_mem _)
theorem Hold.value {pg : PG} {root v : Nat} {l : Ent} (H : Hold pg true root l) (h : v ∈ l.map (·.2)) : pg v = VPg.vp ∧ Rch pg (nz [root]) v := by
 rcases H with ⟨rfl, _⟩ | ⟨h0, k, H⟩
 ·cases h
 ·exact ⟨H.values v h, by rw [nz1 h0]; exact H.reach v h⟩
theorem nzl (n : Nat) : (nz [n]).length ≤ 1 := List.length_filter_le _ _
end Go.Proofs.YtfoffehokhkohaaGreat
set_option maxRecDepth 20000
namespace Go.Proofs.YtfoffehokhkohaaGreat
open Go
def nmL : Ent := [(1, 4), (2, 5), (3, 6)]
set_option maxHeartbeats 4000000 in
theorem law_names : FnSpec Tryz.prog 3 [] [] (fun v hp => v = .tt ∧ hp = []) := by
 letI : VPg := ⟨⟨9, [], []⟩⟩
 have hvk : VPg.vp.kids = [] := rfl
 have he1 : EntOk [(5, 7)] := EntOk.nil.put (k := 5) (v := 7) (by decide) (by decide)
 have heb : EntOk nmL := ⟨by decide, by decide⟩
 refine spec_cl mixed F3 rfl rfl rfl (fun Γ hΓ hb => ?_)
 cbv
 refine cP hΓ (law_lives) [] ?_
 rintro x hp' ⟨rfl, rfl⟩
 refine ⟨rfl, ?_⟩
 cbv
 refine cP hΓ (law_roomy) [] ?_
 rintro x hp' ⟨rfl, rfl⟩
 refine ⟨rfl, ?_⟩
 cbv
 refine cP hΓ (made_40) [] ?_
 rintro x hp' ⟨b, db, σ, rfl, rfl, hI, hF, hnow, hheld⟩
 refine ⟨rfl, ?_⟩
 cbv
 refine cP hΓ ((insert_new b db 5 7 false σ _ [] hI (by simp) (by simp) (hF.room hI (Pages.nil _) (by decide) (by decide)) (by decide) (by decide) (by simp)).mono (TreeR.hold (Nat.le_refl 2))) [0] ?_
 rintro x hp' ⟨a, σ1, pg1, rfl, rfl, s1, _, I1, Ha⟩
 refine ⟨rfl, ?_⟩
 cbv
 have F1 := hF.step s1 (Nat.le_refl _)
 have a0 := Ha.pos (by simp)
 have ra : ∀ n ∈ nz [a], n ∈ nz [a] ++ [] := fun m hm => List.mem_append_left _ hm
 refine cP hΓ ((h_look (b := b) (db := db) (key := 6) I1 Ha ra he1 (by simp) (by decide)).no (by simp)) [0] ?_
 rintro x hp' ⟨rfl, rfl⟩
 refine ⟨rfl, ?_⟩
 cbv
 refine cP hΓ ((look_none b db 6 σ1).no (by simp)) [0] ?_
 rintro x hp' ⟨rfl, rfl⟩
 refine ⟨rfl, ?_⟩
 cbv
 refine cP hΓ (h_delete_no (b := b) (db := db) (key := 6) I1 Ha ra he1 (by simp) (by decide) (by simp)) [0] ?_
 rintro x hp' ⟨rfl, rfl⟩
 refine ⟨rfl, ?_⟩
 cbv
 obtain ⟨ka, Ra⟩ : ∃ k, Rep pg1 false k a [(5, 7)] := by
  rcases Ha with ⟨h, _⟩ | ⟨_, h⟩
  ·cases h
  ·exact h
 have ka6 := pow_small Ra.pow (show 1 ≤ 100 by decide)
 refine cP hΓ (insert_kind b db a ka 6 9 false σ1 pg1 _ [(5, 7)] I1 (I1.live_ext (ra a (by rw [nz1 a0]; exact List.mem_cons_self))) Ra he1 (by decide) (by omega)) [0] ?_
 rintro x hp' ⟨rfl, rfl⟩
 refine ⟨rfl, ?_⟩
 cbv
 have l9 : live σ1 9 = false := by
  cases h : live σ1 9 with
  | false => rfl
  | true =>
   have h1 := s1.low 9 (by rw [hnow]; decide) (live_now h)
   have h2 : (spFr σ 9).length = 6 := by
    unfold spFr
    rw [hnow, hheld]
    decide
   omega
 refine cP hΓ (insert_bad b db 6 9 σ1 I1.ok (by decide) l9) [0] ?_
 rintro x hp' ⟨rfl, rfl⟩
 refine ⟨rfl, ?_⟩
 cbv
 refine VC.mk rf fun x3 => ?_
 cbv
 refine VC.mk rf fun x4 => ?_
 cbv
 have hbu := h_build b db σ1 pg1 (nz [a] ++ []) ⟨some ⟨x3, 0, none⟩, 0, 3, 0, some ⟨x3, 0, none⟩, 3, 0, [1, 2, 3]⟩ ⟨some ⟨x4, 0, none⟩, 0, 3, 0, some ⟨x4, 0, none⟩, 3, 0, [4, 5, 6]⟩ nmL ⟨⟨Nat.le_refl 3, rfl⟩, ⟨Nat.le_refl 3, rfl⟩, ⟨Nat.le_refl 0, rfl⟩, rfl⟩ heb (by decide) I1 (F1.room I1 (Ha.pg.app (Pages.nil _)) (by decide) (by decide))
 refine cP hΓ (hbu) [0, 1, 2] ?_
 rintro x hp' ⟨c, σ2, pg2, rfl, rfl, s2, k2, I2, Hc⟩
 refine ⟨rfl, ?_⟩
 cbv
 have Ha := Ha.keep (k2.mono ra)
 have F2 := F1.step s2 (Nat.le_refl _)
 refine VC.mk rf fun x5 => ?_
 cbv
 refine VC.mk rf fun x6 => ?_
 cbv
 refine cP hΓ (build_bad b db σ2 ⟨some ⟨x5, 0, none⟩, 0, 2, 0, some ⟨x5, 0, none⟩, 2, 0, [1, 1]⟩ ⟨some ⟨x6, 0, none⟩, 0, 2, 0, some ⟨x6, 0, none⟩, 2, 0, [4, 5]⟩ ⟨Nat.le_refl 2, rfl⟩ ⟨Nat.le_refl 2, rfl⟩ (Nat.le_refl 2) rfl (Nat.le_refl 1)) [0, 3, 4] ?_
 rintro x hp' ⟨rfl, rfl⟩
 refine ⟨rfl, ?_⟩
 cbv
 refine VC.mk rf fun x7 => ?_
 cbv
 refine cP hΓ (build_long b db σ2 ⟨some ⟨x7, 0, none⟩, 0, 1, 0, some ⟨x7, 0, none⟩, 1, 0, [1]⟩ (Nat.one_ne_zero)) [0, 5] ?_
 rintro x hp' ⟨rfl, rfl⟩
 refine ⟨rfl, ?_⟩
 cbv
 refine cP hΓ (build_nil b db true σ2 pg2 _ I2) [0] ?_
 rintro x hp' ⟨rfl, σ3, pg3, rfl, s3, k3, I3⟩
 refine ⟨rfl, ?_⟩
 cbv
 have F3 := F2.step s3 (Nat.le_refl _)
 have ca : ∀ n ∈ nz [a], n ∈ nz [c] ++ (nz [a] ++ []) := fun m hm => List.mem_append_right _ (ra m hm)
 have cc : ∀ n ∈ nz [c], n ∈ nz [c] ++ (nz [a] ++ []) := fun m hm => List.mem_append_left _ hm
 have Ha := Ha.keep (k3.mono ca)
 have Hc := Hc.keep (k3.mono cc)
 have P3 := Hc.pg.app (Ha.pg.app (Pages.nil pg3))
 refine cP hΓ (put_page b db σ3 pg3 _ 9 [] I3 (by decide) (by decide) (F3.room I3 P3 (by decide) (by decide))) [0] ?_
 rintro x hp' ⟨p, σ4, pg4, rfl, rfl, I4, s4, k4, hpg, hp32, hp0⟩
 refine ⟨rfl, ?_⟩
 cbv
 have F4 := F3.step s4 (Nat.le_refl _)
 have Ha := Ha.keep (k4.mono ca)
 have Hc := Hc.keep (k4.mono cc)
 have R4 : Room σ4 3 := Room.step (j := 1) (F3.room I3 P3 (by decide) (by decide)) s4
 have hwp : wr .u64 (toI p) = toI p := wr_u64 om om
 rw [hwp]
 refine cP hΓ ((insert_new b db 1 p true σ4 pg4 (nz [c] ++ (nz [a] ++ [])) I4 (fun _ => hpg) (by have := nzl a; have := nzl c; simp only [List.length_append, List.length_nil]; omega) R4 (by decide) (by omega) (fun _ => hp32)).mono (TreeR.hold (Nat.le_refl 2))) [0] ?_
 rintro x hp' ⟨q, σ5, pg5, rfl, rfl, s5, k5, I5, Hq⟩
 refine ⟨rfl, ?_⟩
 cbv
 have F5 := F4.step s5 (Nat.le_refl _)
 have Ha := Ha.keep (k5.mono ca)
 have Hc := Hc.keep (k5.mono cc)
 refine cP hΓ (h_len (b := b) (db := db) I5 Hc (fun m hm => List.mem_append_right _ (cc m hm)) heb (by decide)) [0] ?_
 rintro x hp' ⟨rfl, rfl⟩
 refine ⟨rfl, ?_⟩
 cbv
 refine cP hΓ (len_none b db σ5) [0] ?_
 rintro x hp' ⟨rfl, rfl⟩
 refine ⟨rfl, ?_⟩
 cbv
 have I5' : Inv σ5 pg5 (nz [c] ++ (refV false 8 ++ (nz [q] ++ (nz [a] ++ [])))) := I5.perm (List.perm_append_comm_assoc _ _ _)
 have P5 := (Hq.pgr hvk).app (Hc.pg.app (Ha.pg.app (Pages.nil pg5)))
 refine cP hΓ (h_insert (b := b) (db := db) (key := 2) (val := 8) I5' (by simp) Hc heb (by decide) (by have := nzl a; have := nzl q; simp only [List.length_append, List.length_nil]; omega) (F5.room I5 P5 (Nat.le_of_ble_eq_true rfl) (by decide)) (by decide) (by decide) (by simp)) [0] ?_
 rintro x hp' ⟨u, σ6, pg6, rfl, rfl, s6, k6, I6, Hu⟩
 refine ⟨rfl, ?_⟩
 cbv
 have q0 := Hq.pos (by simp)
 have Ha := Ha.keep (k6.mono fun m hm => List.mem_append_right _ (ra m hm))
 have Hq := Hq.keep (k6.mono fun m hm => List.mem_append_left _ hm)
 have heu : EntOk [(1, 4), (2, 8), (3, 6)] := ⟨by decide, by decide⟩
 have Hu : Hold pg6 false u [(1, 4), (2, 8), (3, 6)] := Hu
 have hu : ∀ n ∈ nz [u], n ∈ nz [u] ++ (nz [q] ++ (nz [a] ++ [])) := fun m hm => List.mem_append_left _ hm
 refine cP hΓ (h_look_yes (b := b) (db := db) (key := 2) (val := 8) I6 Hu hu heu (by decide) (by decide) (by decide)) [0] ?_
 rintro x hp' ⟨rfl, rfl⟩
 refine ⟨rfl, ?_⟩
 cbv
 repeat (refine .yes (eqT rfl) ?_; cbv)
 refine cP hΓ (h_check (b := b) (db := db) I6 Hu hu heu (by decide)) [0] ?_
 rintro x hp' ⟨rfl, rfl⟩
 refine ⟨rfl, ?_⟩
 cbv
 refine .yes (eqT rfl) ?_
 cbv
 obtain ⟨v1, v2⟩ := Hq.value (v := p) (by simp)
 have lp : live σ6 p = true := I6.live_reach (v2.mono fun m hm => List.mem_append_right _ (List.mem_append_left _ hm))
 refine cP hΓ (check_bad b db p σ6 pg6 I6.ok lp (I6.has p lp) v1) [0] ?_
 rintro x hp' ⟨rfl, rfl⟩
 refine ⟨rfl, ?_⟩
 cbv
 refine .yes (eqT rfl) ?_
 cbv
 refine cP hΓ (check_none b db σ6) [0] ?_
 rintro x hp' ⟨rfl, rfl⟩
 refine ⟨rfl, ?_⟩
 cbv
 refine .yes (eqT rfl) ?_
 cbv
 have I6' : Inv σ6 pg6 (q :: (nz [u] ++ (nz [a] ++ []))) := by
  rw [nz1 q0] at I6
  exact I6.perm List.perm_middle
 refine cP hΓ (spc_Drop b db q σ6 pg6 (nz [u] ++ (nz [a] ++ [])) I6' (by have := nzl a; have := nzl u; simp only [List.length_append, List.length_nil]; omega)) [0] ?_
 rintro x hp' ⟨σ7, rfl, rfl, I7, s7⟩
 refine ⟨rfl, ?_⟩
 cbv
 refine .yes (eqT rfl) ?_
 cbv
 have hcn : σ7.now.getD p 0 = 0 := by
  by_cases h : σ7.now.getD p 0 = 0
  ·exact h
  ·have hl := live_mk (by rw [s7.asked]; exact live_asked lp) h
   obtain ⟨m, hm, hr⟩ := (I7.reach_live hl).one
   have ht : (pg6 p).tag = 3 ∨ (pg6 p).tag = 4 := by
    rcases List.mem_append.1 hm with hm | hm
    ·exact Hu.tags (hr.mono fun k hk => by rw [List.mem_singleton.1 hk]; exact hm)
    ·rcases List.mem_append.1 hm with hm | hm
     ·exact Ha.tags (hr.mono fun k hk => by rw [List.mem_singleton.1 hk]; exact hm)
     ·cases hm
   rw [v1] at ht
   exact absurd ht (by decide)
 have hct := spc_Count b db p σ7 hp32 I7.ok
 rw [hcn] at hct
 refine cP hΓ (hct) [0] ?_
 rintro x hp' ⟨rfl, rfl⟩
 refine ⟨rfl, ?_⟩
 cbv
 refine .yes (eqT rfl) ?_
 cbv
 refine VC.mk rf fun x8 => ?_
 cbv
 refine cP hΓ (spc_Audit b db 2 0 0 2 0 (some ⟨x8, 0, none⟩) (some ⟨x8, 0, none⟩) [a, u] σ7 pg6 _ I7 rfl (Nat.le_refl 2) (by omega) (by rw [List.append_nil]; exact (List.Perm.of_eq (List.filter_append (l₁ := [a]) (l₂ := [u]))).trans List.perm_append_comm)) [0, 6] ?_
 rintro x hp' ⟨rfl, rfl⟩
 refine ⟨rfl, ?_⟩
 cbv
 refine Cl.den (v' := .tt) ?_ rfl
 exact Cl.tk 0 hb rfl rfl rfl ⟨rfl, rfl⟩
end Go.Proofs.YtfoffehokhkohaaGreat
namespace Go.Proofs.YtfoffehokhkohaaGreat
open Go.ChangeShapes Go.WideShapes Go.ChangeAt Go.RowKit
theorem Tryz.own : ownKnob Tryz.prog.godebug = none := by kernel_rfl
theorem calls_of {P : Program} {f : FuncId} {hpl : List Ch} {args : List SV} {R : KV} (spec : FnSpec P f hpl args R) (en : ∃ fn c, P.funcs[f]? = some fn ∧ fn.body = some c ∧ (fn.name == "runtime.NumGoroutine") = false) {w : World} {D : Nat → Prop} (hd : DenH ⟨P, w, D, bases hpl⟩ hpl w) :
  Calls P f (SV.denL (bases hpl) args).toArray w (CallPost ⟨P, w, D, bases hpl⟩ hpl R) := by
 have h := spec.run w D hd
 obtain ⟨fn, c, h1, h2, h3⟩ := en
 have h3' : ¬ fn.name = "runtime.NumGoroutine" := by simpa using h3
 have hcall : (callFunc f (SV.denL (bases hpl) args).toArray).run P w = .ok (.enter f (SV.denL (bases hpl) args).toArray) w := by
  simp [callFunc, h1, h2, h3']
 unfold FCalls at h
 rw [hcall] at h
 exact h
theorem kept_of {W W' : World} (h : Fr (fun _ => False) W W') : W.keptBut W' (fun _ => False) := by
 refine ⟨h.os, h.output, fun i hi => ?_⟩
 rw [h.keep i hi id]
 split
 ·exact ⟨by simp_all, by simp_all, by simp_all, fun j _ => by simp_all⟩
 ·exact .inr ⟨by simp_all, by simp_all⟩
 ·rfl
theorem denH_nil (P : Program) (W : World) : DenH ⟨P, W, fun _ => False, bases []⟩ [] W := ⟨fun _ _ => False, ⟨Fr.refl _ _, fun h c hc => (by simp at hc), fun _ _ _ h => h.elim, fun _ _ h => h.elim, fun _ _ h => h.elim, fun _ _ h => h.elim, ⟨[], rfl⟩⟩⟩
theorem Tryz.en3 : ∃ fn c, Tryz.prog.funcs[3]? = some fn ∧ fn.body = some c ∧ (fn.name == "runtime.NumGoroutine") = false := let ⟨fn, c, h1, h2, h3, _⟩ := F3.h; ⟨fn, c, h1, h2, h3⟩
set_option maxRecDepth 100000 in
theorem names_lifted (os : Os) (started : os.Started) (H : Type) (enc : TypeId × Value → H) :
  ReturnsInHanded {} Tryz.checked os 3 .any (Rows.treeNamesSpec.pre6 enc Tryz.prog Tryz.f3 Rows.treeNamesRow.domain false) (Rows.treeNamesSpec.post enc Tryz.prog Tryz.f3 false true false false) := by
 refine returnsInHanded_of_change (C := Tryz.checked) Tryz.own started (by kernel_rfl) Tryz.func3
  (ChangeSpec.witness6 (enc := enc) (C := Tryz.checked) false ⟨#[], #[], []⟩ 8 (by kernel_rfl) (by kernel_rfl) (by kernel_rfl) (by kernel_rfl)) ?_
 intro W base args ds gs before hval0 hW hcnd _
 have hW' := hW
 obtain ⟨p, q, hA0, hV, rfl, hfz, hnd⟩ := hW
 have hA : DataW.TrodAll enc Tryz.prog W 0 (fun _ => true) true Tryz.f3.params.toList args.toList ds p := hA0
 rw [Tryz.params3] at hA
 obtain ⟨rfl, rfl, rfl⟩ := trodAll_none hA
 obtain ⟨rfl, rfl⟩ := trodVars_none hV
 refine (calls_of law_names Tryz.en3 (denH_nil Tryz.prog W)).mono ?_
 rintro e W' ⟨v, hp, rfl, _, ⟨S, d⟩, _, rfl, _⟩
 exact ⟨_, rfl, [], [], [], [], [], [], hW', trodAll_mk1 (shut_bool Tryz.underlying4 true), rfl, hV, World.keptBut_mono (fun _ h => h.elim) (kept_of d.fr), fun h => by cases h⟩
theorem names_holds : Rows.TreeNamesSaid :=
 OpenClaim.holds_of_wide 3 Tryz.f3 rfl rfl rfl rfl rfl rfl rfl ⟨rfl, rfl, rfl, rfl, rfl⟩ rfl rfl rfl rfl rfl (by kernel_rfl) Tryz.func3 (by kernel_rfl)
  (of_decide_eq_true (by kernel_rfl)) (by unfold Func.isWrapper; first | (rw [if_pos (by decide +kernel)]; kernel_rfl) | (rw [if_neg (by decide +kernel)]; exact ⟨rfl, rfl⟩))
  (fun os started H enc _ => names_lifted os started H enc)
#print axioms names_holds
end Go.Proofs.YtfoffehokhkohaaGreat
