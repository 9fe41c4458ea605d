/- CollectBuilt of its layer returns true, for every input: the tied card. Its conditions: none beside the row's own. -/
import Derived.Test.YtngcjpkccnfjiaaGreatDoorYI
namespace Go.Proofs.YtngcjpkccnfjiaaGreatDoor.collectBuilt
open Go Go.Ev Go.ChangeShapes Go.WideShapes Go.ChangeAt Go.RowKit Go.Proofs.YtngcjpkccnfjiaaGreatDoor
theorem builds {H:Type}{enc:TypeId×Value→H}{W:World}: ∀t∈ [62,46],∀n,Builds H enc Tryz.prog W n t:=by
 intro t ht;simp at ht;rcases ht with rfl|rfl
 · exact bld62
 · exact bld46
set_option maxRecDepth 100000 in
theorem plain: ∀t∈ [62,46],Plain Tryz.prog 5 t=true:=by
 intro t ht;simp at ht;rcases ht with rfl|rfl
 · kernel_rfl
 · kernel_rfl
theorem table {W:World}(h:laidMetH Tryz.prog Rows.collectBuiltRow.laid W): ∀j x,tab[j]? =some x→W.cell? ⟨0,j,none⟩=some x:=tab_cells (truth_of rfl h)
set_option maxRecDepth 100000 in
theorem contract (H:Type)(enc:TypeId×Value→H)(W:World)(base:Nat)(args:Array Value)(ds gs:List (DataW H))(before:List MemPlace)
 (hval: ∀(j:Nat) t v,Tryz.f7.params[j]? =some t→args[j]? =some v→Value.okWide Tryz.prog W .any base t v)
 (hW:DataW.Whole enc Tryz.prog Tryz.f7.params.toList Rows.collectBuiltSpec.vars false W args.toList ds gs before) (hL:laidMetH Tryz.prog Rows.collectBuiltRow.laid W):
 Calls Tryz.prog 7 args W fun e W'=> ∃v,e= .returned v∧Rows.collectBuiltSpec.post enc Tryz.prog Tryz.f7 false true false false W args v W':=by
 have hW':=hW;obtain⟨p,q,hA0,hV,rfl,hfz,hnd⟩:=hW;have hA:DataW.TrodAll enc Tryz.prog W 0 (fun _=>true) true Tryz.f7.params.toList args.toList ds p:=hA0;rw[Tryz.params7]at hA hval;obtain⟨rfl,rfl⟩:=trodVars_none hV;have hp: ∀x∈p,x.block<W.heap.size:=fun x hx=>hW'.lt x (by simpa using hx);have hs: ∀(i:Nat) t v,[62,46][i]? =some t→args.toList[i]? =some v→Shaped1 Tryz.prog t v:=fun i t v h1 h2=>
  shaped_of (plain t (List.mem_of_getElem? h1)) (hval i t v (by simpa using h1) (by rw[←Array.getElem?_toList];exact h2))
 have hA2:=hA;obtain⟨v1,vs1,d1,ds1,p1,q1,e1,rfl,rfl,t1,r1⟩:=trodAll_cons hA2;obtain⟨v2,vs2,d2,ds2,p2,q2,rfl,rfl,rfl,t2,r2⟩:=trodAll_cons r1;obtain⟨rfl,rfl,rfl⟩:=trodAll_nil r2;refine(law_calls (enc:=enc) Tryz.func7 (by kernel_rfl) (by decide) (table hL) hA builds hs fun h evs htb hok hg D=> ?_).mono fun e W' ⟨he,hb⟩=> ?_
 · match evs,D with
   | [x1,x2],⟨⟨⟨n1,D1⟩,s1⟩,⟨⟨n2,D2⟩,s2⟩,_⟩=>
     obtain⟨v0,xs,rfl,B⟩:=pile_of D1;obtain⟨vl,vs,rfl,V⟩:=agg_of_VA D2;exact law7 hok htb B V
 · subst he;refine⟨_,rfl,post_of_old (pa:=p1++(p2++[])) (pv:=[]) hW' (fun _ _ _=>trodAll_cons_mk (shut_bool Tryz.underlying4 _) trodAll_mk0) (fun sp hsp=> ?_) (fun _ _=>rfl) (by simp) (hb.frame _) (fun a ha=>hb.frozen ha) (ok_one (by kernel_rfl) rfl (okWide_bool_mk Tryz.underlying4 _))⟩;rw[Tryz.params7];exact again kids full (by intro t ht;simp at ht;rcases ht with rfl|rfl<;>exact of_decide_eq_true (by kernel_rfl)) hA hb hp sp (fun q hq=>hsp q (by simpa using hq))
def wit:Array Value:= #[.agg #[.int .u8 0,.int .u8 0,.int .u8 0,.int .u8 0,.int .u8 0,.int .u8 0,.int .u8 0,.int .u8 0,.int .u8 0,.int .u8 0,.int .u8 0,.int .u8 0,.int .u8 0,.int .u8 0,.int .u8 0,.int .u8 0,.int .u8 0,.int .u8 0,.int .u8 0,.int .u8 0,.int .u8 0,.int .u8 0,.int .u8 0,.int .u8 0,.int .u8 0,.int .u8 0,.int .u8 0,.int .u8 0,.int .u8 0,.int .u8 0,.int .u8 0,.int .u8 0,.int .u8 0,.int .u8 0,.int .u8 0,.int .u8 0,.int .u8 0,.int .u8 0,.int .u8 0,.int .u8 0,.int .u8 0,.int .u8 0,.int .u8 0,.int .u8 0,.int .u8 0,.int .u8 0,.int .u8 0,.int .u8 0,.int .u8 0,.int .u8 0,.int .u8 0],.agg #[.int .i64 0,.int .i64 0,.string (ByteArray.mk #[]),.slice none 0 0]]
set_option maxRecDepth 100000 in
theorem laid_met (os:Os):laidMet Tryz.prog Rows.collectBuiltRow.laid ((laidWorld os).forCall (fun _ _=>0) ⟨#[],wit,[]⟩).memory:=
 laidMet_of_run' 8 (by kernel_rfl) (by kernel_rfl)
set_option maxRecDepth 100000 in
theorem reads (os:Os){H:Type}(enc:TypeId×Value→H): ∃places,DataW.whole enc Tryz.prog ((laidWorld os).forCall (fun _ _=>0) ⟨#[],wit,[]⟩).memory Tryz.f7.params.toList Rows.collectBuiltSpec.vars false wit.toList 8=some ([.agg [.lit (.int .u8 0),.lit (.int .u8 0),.agg [.lit (.int .u8 0),.lit (.int .u8 0),.lit (.int .u8 0),.lit (.int .u8 0),.lit (.int .u8 0),.lit (.int .u8 0),.lit (.int .u8 0),.lit (.int .u8 0),.lit (.int .u8 0)],.agg [.agg [.lit (.int .u8 0),.lit (.int .u8 0),.lit (.int .u8 0),.lit (.int .u8 0)],.agg [.lit (.int .u8 0),.lit (.int .u8 0),.lit (.int .u8 0),.lit (.int .u8 0)],.agg [.lit (.int .u8 0),.lit (.int .u8 0),.lit (.int .u8 0),.lit (.int .u8 0)],.agg [.lit (.int .u8 0),.lit (.int .u8 0),.lit (.int .u8 0),.lit (.int .u8 0)],.agg [.lit (.int .u8 0),.lit (.int .u8 0),.lit (.int .u8 0),.lit (.int .u8 0)],.agg [.lit (.int .u8 0),.lit (.int .u8 0),.lit (.int .u8 0),.lit (.int .u8 0)],.agg [.lit (.int .u8 0),.lit (.int .u8 0),.lit (.int .u8 0),.lit (.int .u8 0)],.agg [.lit (.int .u8 0),.lit (.int .u8 0),.lit (.int .u8 0),.lit (.int .u8 0)],.agg [.lit (.int .u8 0),.lit (.int .u8 0),.lit (.int .u8 0),.lit (.int .u8 0)]],.agg [.lit (.int .u8 0),.lit (.int .u8 0),.lit (.int .u8 0),.lit (.int .u8 0)]],.agg [.lit (.int .i64 0),.lit (.int .i64 0),.lit (.string []),.nil]],[],places):=
 ⟨[],by kernel_rfl⟩
set_option maxRecDepth 100000 in
theorem lifted (os:Os)(started:os.Started)(H:Type)(enc:TypeId×Value→H)(F:Stop.Interp):
 ReturnsInHanded {} Tryz.checked os 7 .any ((OpenSpec.ofChange Rows.collectBuiltSpec).preRow enc Tryz.prog Tryz.f7 Rows.collectBuiltRow.domain false Rows.collectBuiltRow.laid) (((OpenSpec.ofChange Rows.collectBuiltSpec).at F).post enc Tryz.prog Tryz.f7 false true false false):=by
 obtain⟨places,hx⟩:=reads os enc;refine returnsInHanded_of_row (C:=Tryz.checked) (s:=OpenSpec.ofChange Rows.collectBuiltSpec) own started (by kernel_rfl) Tryz.func7
  (witness_row_at (enc:=enc) (C:=Tryz.checked) false (laidWorld os) wit rfl (by kernel_rfl) (by kernel_rfl) (by kernel_rfl)
    (OpenSpec.preRow_of_cond 8 hx (by kernel_rfl) (fun k hk=>by cases hk) (by kernel_rfl) (laid_met os))) ?_
 intro W base args ds gs before hval hW _ _ _ hL _ _;exact contract H enc W base args ds gs before hval hW hL
set_option maxRecDepth 100000 in
theorem said:Rows.CollectBuiltSaid:=
 OpenClaim.holds_of_cond 7 Tryz.f7 rfl rfl rfl rfl rfl rfl rfl ⟨rfl,rfl,rfl,rfl,rfl⟩ rfl rfl rfl rfl rfl (by kernel_rfl) Tryz.func7 (by kernel_rfl)
  (of_decide_eq_true (by kernel_rfl)) (by unfold Func.isWrapper;first|(rw[if_pos (by decide+kernel)];kernel_rfl)|(rw[if_neg (by decide+kernel)];exact⟨rfl,rfl⟩))
  (fun os started H enc _ F=>by rw[OpenClaim.pre_eq_preRow];exact lifted os started H enc F)
set_option maxRecDepth 100000 in
theorem plain1 (f : FuncId) (fn : Func) (hf : Tryz.pinned.checked.prog.funcNamed "sward/swardlaw15.CollectBuilt" = some f) (hfn : Tryz.pinned.checked.prog.funcs[f]? = some fn) :
 true=Tryz.pinned.checked.prog.looks []∧ ∀(j:Nat) t,fn.params[j]? =some t→Tryz.pinned.checked.prog.wantsStandIn t=false:=by
 obtain rfl : f = 7 := Option.some.inj ((show Tryz.prog.funcNamed "sward/swardlaw15.CollectBuilt" = some 7 by kernel_rfl).symm.trans hf) |>.symm;obtain rfl:fn=Tryz.f7:=(Option.some.inj (Tryz.func7.symm.trans hfn)).symm;refine⟨by kernel_rfl,fun j t ht=> ?_⟩;rw[Tryz.params7]at ht;have ht':t∈ [62,46]:=List.mem_of_getElem? (i:=j) (by simpa using ht);simp at ht';rcases ht' with rfl|rfl<;>exact(show Tryz.prog.wantsStandIn _=false by kernel_rfl)
theorem card:Rows.CollectBuiltCardSaid:=
 Claim7.holds_tied_plain_at .later [] _ _ _ _ said (fun _ h=>by cases h) (by kernel_rfl) (fun _ h=>by cases h) collectBuilt_row_tie rfl ⟨rfl,rfl⟩ (by kernel_rfl) rfl plain1 (by kernel_rfl)
end Go.Proofs.YtngcjpkccnfjiaaGreatDoor.collectBuilt
