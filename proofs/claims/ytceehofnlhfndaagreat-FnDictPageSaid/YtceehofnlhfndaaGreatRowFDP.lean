/- the claim's statement -/
import Derived.Test.YtceehofnlhfndaaGreatRows
import Derived.Test.YtceehofnlhfndaaGreatFDPW0
import Derived.Test.YtceehofnlhfndaaGreatLawFDP3
import Derived.Test.YtceehofnlhfndaaGreatAmRow
namespace Go.Proofs.YtceehofnlhfndaaGreat.fnDictPage
open Go.ChangeShapes Go.WideShapes Go.ChangeAt Go.RowKit
open Go.ChangeMaps (open_string shut_string)
set_option linter.unusedVariables false
theorem own:ownKnob Tryz.prog.godebug=none:=by kernel_rfl
theorem laidOut:laidOutB Tryz.prog=true:=by kernel_rfl
set_option maxRecDepth 100000 in
theorem lifted(os:Os)(started:os.Started)(H:Type)(enc:TypeId×Value→H):
 ReturnsInHanded {} Tryz.checked os 5 .any (Rows.fnDictPageSpec.pre6 enc Tryz.prog Tryz.f5 Rows.fnDictPageRow.domain false) (Rows.fnDictPageSpec.post enc Tryz.prog Tryz.f5 false true false false):=by
 refine returnsInHanded_of_change_sized (C:=Tryz.checked) own started (by kernel_rfl) Tryz.func5
  (ChangeSpec.witness6 (enc:=enc) (C:=Tryz.checked) false ⟨#[],#[.slice none 0 0],[]⟩ 8 (by kernel_rfl) (by kernel_rfl) (by kernel_rfl) (by kernel_rfl)) ?_
 intro W base args ds gs before hval0 hW hcnd hsz0 _;have hval:∀(j:Nat) t v,Tryz.f5.params[j]?=some t→args[j]?=some v→Value.okWide Tryz.prog W .any base t v:=hval0;have hW':=hW;obtain⟨p,q,Po,hV,rfl,hfz,hnd⟩:=hW;have hA:DataW.TrodAll enc Tryz.prog W 0 (fun _=>true) true Tryz.f5.params.toList args.toList ds p:=Po;rw[Tryz.params5] at hA hval;obtain⟨v0,vs0,d0,ds0,p0,q0,hargs,rfl,rfl,h0,r0⟩:=trodAll_cons hA;obtain⟨rfl,rfl,rfl⟩:=trodAll_nil r0;obtain rfl:args= #[v0]:=by cases args;simp_all
 obtain⟨rfl,rfl⟩:=trodVars_none hV;have lt0:∀x∈p0,x.block<W.heap.size:=by obtain⟨m,hm⟩:=h0;exact DataW.trod_lt m _ _ _ hm
 have m0:Go.Am.mkV false v0.cells.toList v0:=by obtain⟨a,b,c,e⟩:=okWide_slice Tryz.underlying22 (hval 0 22 v0 rfl rfl);subst e;rfl
 obtain⟨y0,g0,e0⟩:=Go.Am.Aq (u:=(.list 5 (.int .u8))) (by kernel_rfl) rfl m0 h0;clear Po hval0 hsz0;obtain⟨k,hk⟩:=Go.Bd.fnDictPage y0
 refine(Go.Am.AA (w:=W) (bg:=(Go.Proofs.YtceehofnlhfndaaGreat.Pf k).bg.1) (x:=y0) (fn:=Tryz.f5) (code:=Go.Am.sw Tryz.f5) (Go.Proofs.YtceehofnlhfndaaGreat.Pg k) (by kernel_rfl) (by kernel_rfl) (by decide) rfl hk (fun s=>by
  match s with
  |0=>exact e0 _ _
  |s+1=>exact trivial)).mono fun e W' ⟨he,OL⟩=> ?_
 subst he;exact⟨_,rfl,_,_,_,[],_,[],hW',trodAll_mk1 (shut_bool Tryz.underlying4 _),(trodAll_cons_mk (Below.trod laidOut (by kernel_rfl) (of_decide_eq_true (by kernel_rfl)) h0 OL lt0) trodAll_mk0),rfl,OL.frame _,fun h=>by cases h⟩
theorem C_{a b:Bool}(h:a=true)(g:b=true):(a&&b)=true:=by rw[h,g];rfl
theorem Eh{a b:Bool}(h:(a&&b)=true):a=true∧b=true:=by simpa using h
theorem abp:laidOutB Tryz.pinned.checked.prog=true:=laidOut
theorem aaK:(Rows.fnDictPageRow.wf (OpenSpec.ofChange Rows.fnDictPageSpec))=true:=by kernel_rfl
theorem aaL:(mapsRowed Tryz.pinned.checked.prog)=true:=by kernel_rfl
theorem aaN:(Tryz.f5.params.all (Tryz.pinned.checked.prog.readableRec ·)&&namedTie Tryz.pinned.checked.prog Rows.fnDictPageRow.named Rows.fnDictPageSpec.vars&&(Rows.fnDictPageRow.stops==[])&&(Tryz.pinned.checked.prog.stops==[])&&(Rows.fnDictPageRow.knobs==[])&&(Tryz.pinned.checked.prog.stopKnobs==[]))=true:=by kernel_rfl
theorem aaO:((Rows.fnDictPageRow.inPlace==Tryz.pinned.checked.prog.inPlace 5)&&(Rows.fnDictPageRow.unfollowed==Tryz.pinned.checked.prog.unfollowed 5)&&(Rows.fnDictPageRow.recurses==Tryz.pinned.checked.prog.recurses 5)&&(Rows.fnDictPageRow.named==Tryz.pinned.checked.prog.varsNamed 5))=true:=by kernel_rfl
theorem aaP:((Rows.fnDictPageRow.maps==(Tryz.f5.params.toList++Rows.fnDictPageSpec.plain.varTypes Tryz.pinned.checked.prog).any (Tryz.pinned.checked.prog.mapsRec ·))&&(Rows.fnDictPageRow.ifaces==(Tryz.f5.params.toList++Rows.fnDictPageSpec.plain.varTypes Tryz.pinned.checked.prog).any (Tryz.pinned.checked.prog.ifacesRec ·))&&(Rows.fnDictPageRow.mapsOut==Tryz.pinned.checked.prog.mapsAmong Tryz.f5.resultTypes.toList)&&(Rows.fnDictPageRow.loops==(Tryz.f5.params.toList++Rows.fnDictPageSpec.plain.varTypes Tryz.pinned.checked.prog).any (Tryz.pinned.checked.prog.loopsFrom ·))&&(Rows.fnDictPageRow.wideKeys==(Tryz.f5.params.toList++Rows.fnDictPageSpec.plain.varTypes Tryz.pinned.checked.prog++Tryz.f5.resultTypes.toList).any (Tryz.pinned.checked.prog.wideKeysFrom ·))&&Rows.fnDictPageSpec.vars.all (Tryz.pinned.checked.prog.varReadable ·)&&Tryz.f5.resultTypes.all (fun t=>Tryz.pinned.checked.prog.readableRec t&&decide (t<Tryz.pinned.checked.prog.types.size))&&(Rows.fnDictPageRow.ifacesOut==Tryz.f5.resultTypes.toList.any (Tryz.pinned.checked.prog.ifacesRec ·))&&(Rows.fnDictPageRow.loopsOut==Tryz.f5.resultTypes.toList.any (Tryz.pinned.checked.prog.loopsFrom ·)))=true:=by kernel_rfl
theorem aaQ:((Rows.fnDictPageRow.plainKeys==Tryz.pinned.checked.prog.plainKeys))=true:=by kernel_rfl
theorem aaR:(Rows.fnDictPageRow.shortTexts.isNone&&Tryz.pinned.checked.prog.stopsHeard&&Tryz.pinned.checked.prog.mayEnter)=true:=by kernel_rfl
theorem aaS:((Rows.fnDictPageRow.lifted==Tryz.pinned.checked.prog.liftsFinal))=true:=by kernel_rfl
theorem aaT:((Tryz.pinned.checked.prog.make==some Rows.fnDictPageRow.make))=true:=by kernel_rfl
theorem aaU:((Rows.fnDictPageRow.kinds==(if Rows.fnDictPageRow.domain.isEmpty then[] else Tryz.f5.params.toList.map fun t=>match Tryz.pinned.checked.prog.underlying t with|some (.int k)=>some k|_=>none))&&(Rows.fnDictPageRow.pinned==Rows.fnDictPageRow.pinnedBy))=true:=by kernel_rfl
theorem aaM:((Rows.fnDictPageRow.veiled==(Tryz.f5.params.toList++Rows.fnDictPageSpec.plain.varTypes Tryz.pinned.checked.prog++Tryz.f5.resultTypes.toList).any (Tryz.pinned.checked.prog.veiledRec ·))&&Rows.fnDictPageRow.veiledFits Tryz.pinned.checked.prog Tryz.f5.params.toList (Tryz.f5.params.toList++Rows.fnDictPageSpec.plain.varTypes Tryz.pinned.checked.prog++Tryz.f5.resultTypes.toList))=true:=by kernel_rfl
set_option maxRecDepth 100000 in
theorem closed:joinedFacts Tryz.pinned.checked.prog 5 Tryz.f5 Rows.fnDictPageSpec Rows.fnDictPageRow=true:=by
 obtain⟨h8,k8⟩:=Eh aaN;obtain⟨h7,k7⟩:=Eh h8;obtain⟨h6,k6⟩:=Eh h7;obtain⟨h5,k5⟩:=Eh h6;obtain⟨h4,k4⟩:=Eh h5;obtain⟨h12,k12⟩:=Eh aaO;obtain⟨h11,k11⟩:=Eh h12;obtain⟨h10,k10⟩:=Eh h11;obtain⟨h21,k21⟩:=Eh aaP;obtain⟨h20,k20⟩:=Eh h21;obtain⟨h19,k19⟩:=Eh h20;obtain⟨h18,k18⟩:=Eh h19;obtain⟨Z4,k17⟩:=Eh h18;obtain⟨h16,k16⟩:=Eh Z4;obtain⟨GK,k15⟩:=Eh h16;obtain⟨H8,k14⟩:=Eh GK;obtain⟨G_,k25⟩:=Eh aaR;obtain⟨L9,k24⟩:=Eh G_;obtain⟨Z5,k29⟩:=Eh aaU;obtain⟨h31,k31⟩:=Eh aaM;unfold joinedFacts;exact(C_ (C_ (C_ (C_ (C_ (C_ (C_ (C_ (C_ (C_ (C_ (C_ (C_ (C_ (C_ (C_ (C_ (C_ (C_ (C_ (C_ (C_ (C_ (C_ (C_ (C_ (C_ (C_ (C_ (C_ (C_ aaK abp) aaL) h4) k4) k5) k6) k7) k8) h10) k10) k11) k12) H8) k14) k15) k16) k17) k18) k19) k20) k21) aaQ) L9) k24) k25) aaS) aaT) Z5) k29) h31) k31)
theorem named:Tryz.pinned.checked.prog.funcNamed Rows.fnDictPageRow.func=some 5:=by kernel_rfl
theorem inst:Tryz.f5.isInstance Tryz.pinned.checked.prog Rows.fnDictPageRow.origin Rows.fnDictPageRow.targs:=of_decide_eq_true (by kernel_rfl)
theorem wrapper:Tryz.f5.isWrapper Tryz.pinned.checked.prog Rows.fnDictPageRow.wrapper Rows.fnDictPageRow.mainSum:=by unfold Func.isWrapper;first|(rw[if_pos (by decide+kernel)];kernel_rfl)|(rw[if_neg (by decide+kernel)];exact⟨rfl,rfl⟩)
theorem over:Rows.fnDictPageRow.holds Tryz.pinned (OpenSpec.ofChange Rows.fnDictPageSpec):=
 OpenClaim.holds_of_wide 5 Tryz.f5 rfl rfl rfl rfl rfl rfl rfl ⟨rfl,rfl,rfl,rfl,rfl⟩ rfl rfl rfl rfl rfl named Tryz.func5 closed inst wrapper
  (fun os started H enc _=>lifted os started H enc)
end Go.Proofs.YtceehofnlhfndaaGreat.fnDictPage
namespace Go.Proofs.YtceehofnlhfndaaGreat
theorem fnDictPage_holds:Rows.FnDictPageSaid:=fnDictPage.over
#print axioms fnDictPage_holds
end Go.Proofs.YtceehofnlhfndaaGreat
