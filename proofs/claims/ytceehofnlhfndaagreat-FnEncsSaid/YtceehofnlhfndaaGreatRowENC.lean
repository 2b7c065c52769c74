/- the claim's statement -/
import Derived.Test.YtceehofnlhfndaaGreatRows
import Derived.Test.YtceehofnlhfndaaGreatENCW0
import Derived.Test.YtceehofnlhfndaaGreatLawENC2
import Derived.Test.YtceehofnlhfndaaGreatAmRow
namespace Go.Proofs.YtceehofnlhfndaaGreat.fnEncs
open Go.ChangeShapes Go.WideShapes Go.ChangeAt Go.RowKit
open Go.ChangeMaps (open_string shut_string)
set_option linter.unusedVariables false
theorem own:ownKnob Tryz.prog.godebug=none:=by kernel_rfl
theorem laidOut:laidOutB Tryz.prog=true:=by kernel_rfl
set_option maxRecDepth 100000 in
theorem lifted(os:Os)(started:os.Started)(H:Type)(enc:TypeId×Value→H):
 ReturnsInHanded {} Tryz.checked os 4 .any (Rows.fnEncsSpec.pre6 enc Tryz.prog Tryz.f4 Rows.fnEncsRow.domain false) (Rows.fnEncsSpec.post enc Tryz.prog Tryz.f4 false true false false):=by
 refine returnsInHanded_of_change_sized (C:=Tryz.checked) own started (by kernel_rfl) Tryz.func4
  (ChangeSpec.witness6 (enc:=enc) (C:=Tryz.checked) false ⟨#[],#[.slice none 0 0],[]⟩ 8 (by kernel_rfl) (by kernel_rfl) (by kernel_rfl) (by kernel_rfl)) ?_
 intro W base args ds gs before hval0 hW hcnd hsz0 _;have hval:∀(j:Nat) t v,Tryz.f4.params[j]?=some t→args[j]?=some v→Value.okWide Tryz.prog W .any base t v:=hval0;have hW':=hW;obtain⟨p,q,Ll,hV,rfl,hfz,hnd⟩:=hW;have hA:DataW.TrodAll enc Tryz.prog W 0 (fun _=>true) true Tryz.f4.params.toList args.toList ds p:=Ll;rw[Tryz.params4] at hA hval;obtain⟨v0,YI,d0,ds0,p0,q0,hargs,rfl,rfl,h0,r0⟩:=trodAll_cons hA;obtain⟨rfl,rfl,rfl⟩:=trodAll_nil r0;obtain rfl:args= #[v0]:=by cases args;simp_all
 obtain⟨rfl,rfl⟩:=trodVars_none hV;have Wy:∀x∈p0,x.block<W.heap.size:=by obtain⟨m,hm⟩:=h0;exact DataW.trod_lt m _ _ _ hm
 have m0:Go.Am.mkV false v0.cells.toList v0:=by obtain⟨a,b,c,e⟩:=okWide_slice Tryz.underlying22 (hval 0 22 v0 rfl rfl);subst e;rfl
 obtain⟨y0,g0,e0⟩:=Go.Am.Aq (u:=(.list 5 (.int .u8))) (by kernel_rfl) rfl m0 h0;clear Ll hval0 hsz0;obtain⟨k,hk⟩:=Go.A9.fnEncs y0
 refine(Go.Am.AA (w:=W) (bg:=(Go.Proofs.YtceehofnlhfndaaGreat.Le k).bg.1) (x:=y0) (fn:=Tryz.f4) (code:=Go.Am.sw Tryz.f4) (Go.Proofs.YtceehofnlhfndaaGreat.Lf k) (by kernel_rfl) (by kernel_rfl) (by decide) rfl hk (fun s=>by
  match s with
  |0=>exact e0 _ _
  |s+1=>exact trivial)).mono fun e W' ⟨he,KI⟩=> ?_
 subst he;exact⟨_,rfl,_,_,_,[],_,[],hW',trodAll_mk1 (shut_bool Tryz.underlying4 _),(trodAll_cons_mk (Below.trod laidOut (by kernel_rfl) (of_decide_eq_true (by kernel_rfl)) h0 KI Wy) trodAll_mk0),rfl,KI.frame _,fun h=>by cases h⟩
theorem BX{a b:Bool}(h:a=true)(g:b=true):(a&&b)=true:=by rw[h,g];rfl
theorem Dg{a b:Bool}(h:(a&&b)=true):a=true∧b=true:=by simpa using h
theorem WV:laidOutB Tryz.pinned.checked.prog=true:=laidOut
theorem Wm:(Rows.fnEncsRow.wf (OpenSpec.ofChange Rows.fnEncsSpec))=true:=by kernel_rfl
theorem Wn:(mapsRowed Tryz.pinned.checked.prog)=true:=by kernel_rfl
theorem Wp:(Tryz.f4.params.all (Tryz.pinned.checked.prog.readableRec ·)&&namedTie Tryz.pinned.checked.prog Rows.fnEncsRow.named Rows.fnEncsSpec.vars&&(Rows.fnEncsRow.stops==[])&&(Tryz.pinned.checked.prog.stops==[])&&(Rows.fnEncsRow.knobs==[])&&(Tryz.pinned.checked.prog.stopKnobs==[]))=true:=by kernel_rfl
theorem Wq:((Rows.fnEncsRow.inPlace==Tryz.pinned.checked.prog.inPlace 4)&&(Rows.fnEncsRow.unfollowed==Tryz.pinned.checked.prog.unfollowed 4)&&(Rows.fnEncsRow.recurses==Tryz.pinned.checked.prog.recurses 4)&&(Rows.fnEncsRow.named==Tryz.pinned.checked.prog.varsNamed 4))=true:=by kernel_rfl
theorem Ws:((Rows.fnEncsRow.maps==(Tryz.f4.params.toList++Rows.fnEncsSpec.plain.varTypes Tryz.pinned.checked.prog).any (Tryz.pinned.checked.prog.mapsRec ·))&&(Rows.fnEncsRow.ifaces==(Tryz.f4.params.toList++Rows.fnEncsSpec.plain.varTypes Tryz.pinned.checked.prog).any (Tryz.pinned.checked.prog.ifacesRec ·))&&(Rows.fnEncsRow.mapsOut==Tryz.pinned.checked.prog.mapsAmong Tryz.f4.resultTypes.toList)&&(Rows.fnEncsRow.loops==(Tryz.f4.params.toList++Rows.fnEncsSpec.plain.varTypes Tryz.pinned.checked.prog).any (Tryz.pinned.checked.prog.loopsFrom ·))&&(Rows.fnEncsRow.wideKeys==(Tryz.f4.params.toList++Rows.fnEncsSpec.plain.varTypes Tryz.pinned.checked.prog++Tryz.f4.resultTypes.toList).any (Tryz.pinned.checked.prog.wideKeysFrom ·))&&Rows.fnEncsSpec.vars.all (Tryz.pinned.checked.prog.varReadable ·)&&Tryz.f4.resultTypes.all (fun t=>Tryz.pinned.checked.prog.readableRec t&&decide (t<Tryz.pinned.checked.prog.types.size))&&(Rows.fnEncsRow.ifacesOut==Tryz.f4.resultTypes.toList.any (Tryz.pinned.checked.prog.ifacesRec ·))&&(Rows.fnEncsRow.loopsOut==Tryz.f4.resultTypes.toList.any (Tryz.pinned.checked.prog.loopsFrom ·)))=true:=by kernel_rfl
theorem Wt:((Rows.fnEncsRow.plainKeys==Tryz.pinned.checked.prog.plainKeys))=true:=by kernel_rfl
theorem Wu:(Rows.fnEncsRow.shortTexts.isNone&&Tryz.pinned.checked.prog.stopsHeard&&Tryz.pinned.checked.prog.mayEnter)=true:=by kernel_rfl
theorem Wv:((Rows.fnEncsRow.lifted==Tryz.pinned.checked.prog.liftsFinal))=true:=by kernel_rfl
theorem Ww:((Tryz.pinned.checked.prog.make==some Rows.fnEncsRow.make))=true:=by kernel_rfl
theorem Wx:((Rows.fnEncsRow.kinds==(if Rows.fnEncsRow.domain.isEmpty then[] else Tryz.f4.params.toList.map fun t=>match Tryz.pinned.checked.prog.underlying t with|some (.int k)=>some k|_=>none))&&(Rows.fnEncsRow.pinned==Rows.fnEncsRow.pinnedBy))=true:=by kernel_rfl
theorem Wo:((Rows.fnEncsRow.veiled==(Tryz.f4.params.toList++Rows.fnEncsSpec.plain.varTypes Tryz.pinned.checked.prog++Tryz.f4.resultTypes.toList).any (Tryz.pinned.checked.prog.veiledRec ·))&&Rows.fnEncsRow.veiledFits Tryz.pinned.checked.prog Tryz.f4.params.toList (Tryz.f4.params.toList++Rows.fnEncsSpec.plain.varTypes Tryz.pinned.checked.prog++Tryz.f4.resultTypes.toList))=true:=by kernel_rfl
set_option maxRecDepth 100000 in
theorem closed:joinedFacts Tryz.pinned.checked.prog 4 Tryz.f4 Rows.fnEncsSpec Rows.fnEncsRow=true:=by
 obtain⟨h8,k8⟩:=Dg Wp;obtain⟨h7,k7⟩:=Dg h8;obtain⟨h6,k6⟩:=Dg h7;obtain⟨h5,k5⟩:=Dg h6;obtain⟨h4,k4⟩:=Dg h5;obtain⟨h12,k12⟩:=Dg Wq;obtain⟨h11,k11⟩:=Dg h12;obtain⟨h10,k10⟩:=Dg h11;obtain⟨h21,k21⟩:=Dg Ws;obtain⟨h20,k20⟩:=Dg h21;obtain⟨h19,k19⟩:=Dg h20;obtain⟨h18,k18⟩:=Dg h19;obtain⟨Vq,k17⟩:=Dg h18;obtain⟨h16,k16⟩:=Dg Vq;obtain⟨Vp,k15⟩:=Dg h16;obtain⟨Vo,k14⟩:=Dg Vp;obtain⟨EM,k25⟩:=Dg Wu;obtain⟨H_,k24⟩:=Dg EM;obtain⟨Vr,VT⟩:=Dg Wx;obtain⟨h31,VU⟩:=Dg Wo;unfold joinedFacts;exact(BX (BX (BX (BX (BX (BX (BX (BX (BX (BX (BX (BX (BX (BX (BX (BX (BX (BX (BX (BX (BX (BX (BX (BX (BX (BX (BX (BX (BX (BX (BX Wm WV) Wn) h4) k4) k5) k6) k7) k8) h10) k10) k11) k12) Vo) k14) k15) k16) k17) k18) k19) k20) k21) Wt) H_) k24) k25) Wv) Ww) Vr) VT) h31) VU)
theorem named:Tryz.pinned.checked.prog.funcNamed Rows.fnEncsRow.func=some 4:=by kernel_rfl
theorem inst:Tryz.f4.isInstance Tryz.pinned.checked.prog Rows.fnEncsRow.origin Rows.fnEncsRow.targs:=of_decide_eq_true (by kernel_rfl)
theorem wrapper:Tryz.f4.isWrapper Tryz.pinned.checked.prog Rows.fnEncsRow.wrapper Rows.fnEncsRow.mainSum:=by unfold Func.isWrapper;first|(rw[if_pos (by decide+kernel)];kernel_rfl)|(rw[if_neg (by decide+kernel)];exact⟨rfl,rfl⟩)
theorem over:Rows.fnEncsRow.holds Tryz.pinned (OpenSpec.ofChange Rows.fnEncsSpec):=
 OpenClaim.holds_of_wide 4 Tryz.f4 rfl rfl rfl rfl rfl rfl rfl ⟨rfl,rfl,rfl,rfl,rfl⟩ rfl rfl rfl rfl rfl named Tryz.func4 closed inst wrapper
  (fun os started H enc _=>lifted os started H enc)
end Go.Proofs.YtceehofnlhfndaaGreat.fnEncs
namespace Go.Proofs.YtceehofnlhfndaaGreat
theorem fnEncs_holds:Rows.FnEncsSaid:=fnEncs.over
#print axioms fnEncs_holds
end Go.Proofs.YtceehofnlhfndaaGreat
