/- the claim's statement -/
import Derived.Test.YtceehofnlhfndaaRows
import Derived.Test.YtceehofnlhfndaaMFRW0
import Derived.Test.YtceehofnlhfndaaLawMFR1
import Derived.Test.YtceehofnlhfndaaAmRow
namespace Go.Proofs.Ytceehofnlhfndaa.fnMetaFrom
open Go.ChangeShapes Go.WideShapes Go.ChangeAt Go.RowKit
open Go.ChangeMaps (open_string shut_string)
set_option linter.unusedVariables false
theorem own:ownKnob Try.prog.godebug=none:=by kernel_rfl
theorem laidOut:laidOutB Try.prog=true:=by kernel_rfl
set_option maxRecDepth 100000 in
theorem lifted(os:Os)(started:os.Started)(H:Type)(enc:TypeId×Value→H):
 ReturnsInHanded {} Try.checked os 3 .any (Rows.fnMetaFromSpec.pre6 enc Try.prog Try.f3 Rows.fnMetaFromRow.domain false) (Rows.fnMetaFromSpec.post enc Try.prog Try.f3 false true false false):=by
 refine returnsInHanded_of_change_sized (C:=Try.checked) own started (by kernel_rfl) Try.func3
  (ChangeSpec.witness6 (enc:=enc) (C:=Try.checked) false ⟨#[],#[.slice none 0 0],[]⟩ 8 (by kernel_rfl) (by kernel_rfl) (by kernel_rfl) (by kernel_rfl)) ?_
 intro W base args ds gs before hval0 hW hcnd hsz0 _;have hval:∀(j:Nat) t v,Try.f3.params[j]?=some t→args[j]?=some v→Value.okWide Try.prog W .any base t v:=hval0;have hW':=hW;obtain⟨p,q,Nr,hV,rfl,hfz,hnd⟩:=hW;have hA:DataW.TrodAll enc Try.prog W 0 (fun _=>true) true Try.f3.params.toList args.toList ds p:=Nr;rw[Try.params3] at hA hval;obtain⟨v0,ZN,d0,ds0,p0,q0,hargs,rfl,rfl,h0,r0⟩:=trodAll_cons hA;obtain⟨rfl,rfl,rfl⟩:=trodAll_nil r0;obtain rfl:args= #[v0]:=by cases args;simp_all
 obtain⟨rfl,rfl⟩:=trodVars_none hV;have Xh:∀x∈p0,x.block<W.heap.size:=by obtain⟨m,hm⟩:=h0;exact DataW.trod_lt m _ _ _ hm
 have m0:Go.Am.mkV false v0.cells.toList v0:=by obtain⟨a,b,c,e⟩:=okWide_slice Try.underlying22 (hval 0 22 v0 rfl rfl);subst e;rfl
 obtain⟨y0,g0,e0⟩:=Go.Am.Cf (u:=(.list 5 (.int .u8))) (by kernel_rfl) rfl m0 h0;clear Nr hval0 hsz0;obtain⟨k,hk⟩:=Go.C7.fnMetaFrom y0
 refine(Go.Am.Co (w:=W) (aX:=(Go.Proofs.Ytceehofnlhfndaa.Na k).aX.1) (x:=y0) (fn:=Try.f3) (code:=Go.Am.uf Try.f3) (Go.Proofs.Ytceehofnlhfndaa.Nb k) (by kernel_rfl) (by kernel_rfl) (by decide) rfl hk (fun s=>by
  match s with
  |0=>exact e0 _ _
  |s+1=>exact trivial)).mono fun e W' ⟨he,MP⟩=> ?_
 subst he;exact⟨_,rfl,_,_,_,[],_,[],hW',trodAll_mk1 (shut_bool Try.underlying4 _),(trodAll_cons_mk (Below.trod laidOut (by kernel_rfl) (of_decide_eq_true (by kernel_rfl)) h0 MP Xh) trodAll_mk0),rfl,MP.frame _,fun h=>by cases h⟩
theorem En{a b:Bool}(h:a=true)(g:b=true):(a&&b)=true:=by rw[h,g];rfl
theorem Fq{a b:Bool}(h:(a&&b)=true):a=true∧b=true:=by simpa using h
theorem Xt:laidOutB Try.pinned.checked.prog=true:=laidOut
theorem WY:(Rows.fnMetaFromRow.wf (OpenSpec.ofChange Rows.fnMetaFromSpec))=true:=by kernel_rfl
theorem WZ:(mapsRowed Try.pinned.checked.prog)=true:=by kernel_rfl
theorem W_:(Try.f3.params.all (Try.pinned.checked.prog.readableRec ·)&&namedTie Try.pinned.checked.prog Rows.fnMetaFromRow.named Rows.fnMetaFromSpec.vars&&(Rows.fnMetaFromRow.stops==[])&&(Try.pinned.checked.prog.stops==[])&&(Rows.fnMetaFromRow.knobs==[])&&(Try.pinned.checked.prog.stopKnobs==[]))=true:=by kernel_rfl
theorem Xa:((Rows.fnMetaFromRow.inPlace==Try.pinned.checked.prog.inPlace 3)&&(Rows.fnMetaFromRow.unfollowed==Try.pinned.checked.prog.unfollowed 3)&&(Rows.fnMetaFromRow.recurses==Try.pinned.checked.prog.recurses 3)&&(Rows.fnMetaFromRow.named==Try.pinned.checked.prog.varsNamed 3))=true:=by kernel_rfl
theorem Xb:((Rows.fnMetaFromRow.maps==(Try.f3.params.toList++Rows.fnMetaFromSpec.plain.varTypes Try.pinned.checked.prog).any (Try.pinned.checked.prog.mapsRec ·))&&(Rows.fnMetaFromRow.ifaces==(Try.f3.params.toList++Rows.fnMetaFromSpec.plain.varTypes Try.pinned.checked.prog).any (Try.pinned.checked.prog.ifacesRec ·))&&(Rows.fnMetaFromRow.mapsOut==Try.pinned.checked.prog.mapsAmong Try.f3.resultTypes.toList)&&(Rows.fnMetaFromRow.loops==(Try.f3.params.toList++Rows.fnMetaFromSpec.plain.varTypes Try.pinned.checked.prog).any (Try.pinned.checked.prog.loopsFrom ·))&&(Rows.fnMetaFromRow.wideKeys==(Try.f3.params.toList++Rows.fnMetaFromSpec.plain.varTypes Try.pinned.checked.prog++Try.f3.resultTypes.toList).any (Try.pinned.checked.prog.wideKeysFrom ·))&&Rows.fnMetaFromSpec.vars.all (Try.pinned.checked.prog.varReadable ·)&&Try.f3.resultTypes.all (fun t=>Try.pinned.checked.prog.readableRec t&&decide (t<Try.pinned.checked.prog.types.size))&&(Rows.fnMetaFromRow.ifacesOut==Try.f3.resultTypes.toList.any (Try.pinned.checked.prog.ifacesRec ·))&&(Rows.fnMetaFromRow.loopsOut==Try.f3.resultTypes.toList.any (Try.pinned.checked.prog.loopsFrom ·)))=true:=by kernel_rfl
theorem Xc:((Rows.fnMetaFromRow.plainKeys==Try.pinned.checked.prog.plainKeys))=true:=by kernel_rfl
theorem Xd:(Rows.fnMetaFromRow.shortTexts.isNone&&Try.pinned.checked.prog.stopsHeard&&Try.pinned.checked.prog.mayEnter)=true:=by kernel_rfl
theorem Xe:((Rows.fnMetaFromRow.lifted==Try.pinned.checked.prog.liftsFinal))=true:=by kernel_rfl
theorem Xf:((Try.pinned.checked.prog.make==some Rows.fnMetaFromRow.make))=true:=by kernel_rfl
theorem Xg:((Rows.fnMetaFromRow.kinds==(if Rows.fnMetaFromRow.domain.isEmpty then[] else Try.f3.params.toList.map fun t=>match Try.pinned.checked.prog.underlying t with|some (.int k)=>some k|_=>none))&&(Rows.fnMetaFromRow.pinned==Rows.fnMetaFromRow.pinnedBy))=true:=by kernel_rfl
theorem W9:((Rows.fnMetaFromRow.veiled==(Try.f3.params.toList++Rows.fnMetaFromSpec.plain.varTypes Try.pinned.checked.prog++Try.f3.resultTypes.toList).any (Try.pinned.checked.prog.veiledRec ·))&&Rows.fnMetaFromRow.veiledFits Try.pinned.checked.prog Try.f3.params.toList (Try.f3.params.toList++Rows.fnMetaFromSpec.plain.varTypes Try.pinned.checked.prog++Try.f3.resultTypes.toList))=true:=by kernel_rfl
set_option maxRecDepth 100000 in
theorem closed:joinedFacts Try.pinned.checked.prog 3 Try.f3 Rows.fnMetaFromSpec Rows.fnMetaFromRow=true:=by
 obtain⟨h8,k8⟩:=Fq W_;obtain⟨h7,k7⟩:=Fq h8;obtain⟨h6,k6⟩:=Fq h7;obtain⟨h5,k5⟩:=Fq h6;obtain⟨h4,k4⟩:=Fq h5;obtain⟨h12,k12⟩:=Fq Xa;obtain⟨h11,k11⟩:=Fq h12;obtain⟨h10,k10⟩:=Fq h11;obtain⟨h21,k21⟩:=Fq Xb;obtain⟨h20,k20⟩:=Fq h21;obtain⟨h19,k19⟩:=Fq h20;obtain⟨h18,k18⟩:=Fq h19;obtain⟨VT,k17⟩:=Fq h18;obtain⟨h16,k16⟩:=Fq VT;obtain⟨VS,k15⟩:=Fq h16;obtain⟨VR,k14⟩:=Fq VS;obtain⟨VV,k25⟩:=Fq Xd;obtain⟨VU,k24⟩:=Fq VV;obtain⟨VW,WC⟩:=Fq Xg;obtain⟨h31,WE⟩:=Fq W9;unfold joinedFacts;exact(En (En (En (En (En (En (En (En (En (En (En (En (En (En (En (En (En (En (En (En (En (En (En (En (En (En (En (En (En (En (En WY Xt) WZ) h4) k4) k5) k6) k7) k8) h10) k10) k11) k12) VR) k14) k15) k16) k17) k18) k19) k20) k21) Xc) VU) k24) k25) Xe) Xf) VW) WC) h31) WE)
theorem named:Try.pinned.checked.prog.funcNamed Rows.fnMetaFromRow.func=some 3:=by kernel_rfl
theorem inst:Try.f3.isInstance Try.pinned.checked.prog Rows.fnMetaFromRow.origin Rows.fnMetaFromRow.targs:=of_decide_eq_true (by kernel_rfl)
theorem wrapper:Try.f3.isWrapper Try.pinned.checked.prog Rows.fnMetaFromRow.wrapper Rows.fnMetaFromRow.mainSum:=by unfold Func.isWrapper;first|(rw[if_pos (by decide+kernel)];kernel_rfl)|(rw[if_neg (by decide+kernel)];exact⟨rfl,rfl⟩)
theorem over:Rows.fnMetaFromRow.holds Try.pinned (OpenSpec.ofChange Rows.fnMetaFromSpec):=
 OpenClaim.holds_of_wide 3 Try.f3 rfl rfl rfl rfl rfl rfl rfl ⟨rfl,rfl,rfl,rfl,rfl⟩ rfl rfl rfl rfl rfl named Try.func3 closed inst wrapper
  (fun os started H enc _=>lifted os started H enc)
end Go.Proofs.Ytceehofnlhfndaa.fnMetaFrom
namespace Go.Proofs.Ytceehofnlhfndaa
theorem fnMetaFrom_holds:Rows.FnMetaFromSaid:=fnMetaFrom.over
#print axioms fnMetaFrom_holds
end Go.Proofs.Ytceehofnlhfndaa
