/- the claim's statement -/
import Derived.Test.YtohaijhiclmkkaaGreatRows
import Derived.Test.YtohaijhiclmkkaaGreatEFRW1
import Derived.Test.YtohaijhiclmkkaaGreatLawEFR3
import Derived.Test.YtohaijhiclmkkaaGreatAmRow
namespace Go.Proofs.YtohaijhiclmkkaaGreat.fnExactFileRead
open Go.ChangeShapes Go.WideShapes Go.ChangeAt Go.RowKit
open Go.ChangeMaps (open_string shut_string)
set_option linter.unusedVariables false
theorem own:ownKnob Tryz.prog.godebug=none:=by kernel_rfl
theorem laidOut:laidOutB Tryz.prog=true:=by kernel_rfl
set_option maxRecDepth 100000 in
theorem lifted(os:Os)(started:os.Started)(H:Type)(enc:TypeId×Value→H):
 ReturnsInHanded {} Tryz.checked os 7 .any (Rows.fnExactFileReadSpec.pre6 enc Tryz.prog Tryz.f7 Rows.fnExactFileReadRow.domain false) (Rows.fnExactFileReadSpec.post enc Tryz.prog Tryz.f7 false true false false):=by
 refine returnsInHanded_of_change_sized (C:=Tryz.checked) own started (by kernel_rfl) Tryz.func7
  (ChangeSpec.witness6 (enc:=enc) (C:=Tryz.checked) false ⟨#[],#[.slice none 0 0],[]⟩ 8 (by kernel_rfl) (by kernel_rfl) (by kernel_rfl) (by kernel_rfl)) ?_
 intro W base args ds gs before hval0 hW hcnd hsz0 _;have hval:∀(j:Nat) t v,Tryz.f7.params[j]?=some t→args[j]?=some v→Value.okWide Tryz.prog W .any base t v:=hval0;have hW':=hW;obtain⟨p,q,Sv,hV,rfl,hfz,hnd⟩:=hW;have hA:DataW.TrodAll enc Tryz.prog W 0 (fun _=>true) true Tryz.f7.params.toList args.toList ds p:=Sv;rw[Tryz.params7] at hA hval;obtain⟨v0,vs0,d0,ds0,p0,q0,hargs,rfl,rfl,h0,r0⟩:=trodAll_cons hA;obtain⟨rfl,rfl,rfl⟩:=trodAll_nil r0;obtain rfl:args= #[v0]:=by cases args;simp_all
 obtain⟨rfl,rfl⟩:=trodVars_none hV;have lt0:∀x∈p0,x.block<W.heap.size:=by obtain⟨m,hm⟩:=h0;exact DataW.trod_lt m _ _ _ hm
 have m0:Go.Am.mkV false v0.cells.toList v0:=by obtain⟨a,b,c,e⟩:=okWide_slice Tryz.underlying24 (hval 0 24 v0 rfl rfl);subst e;rfl
 obtain⟨y0,g0,e0⟩:=Go.Am.yM (u:=(.list 5 (.int .u8))) (by kernel_rfl) rfl m0 h0;clear Sv hval0 hsz0;obtain⟨k,hk⟩:=Go.Af.fnExactFileRead y0 g0
 refine(Go.Am.yR (w:=W) (aV:=(Go.Proofs.YtohaijhiclmkkaaGreat.Si k).aV.1) (x:=y0) (fn:=Tryz.f7) (code:=Go.Am.qF Tryz.f7) (Go.Proofs.YtohaijhiclmkkaaGreat.Sj k) (by kernel_rfl) (by kernel_rfl) (by decide) rfl hk (fun s=>by
  match s with
  |0=>exact e0 _ _
  |s+1=>exact trivial)).mono fun e W' ⟨he,Rw⟩=> ?_
 subst he;exact⟨_,rfl,_,_,_,[],_,[],hW',trodAll_mk1 (shut_bool Tryz.underlying4 _),(trodAll_cons_mk (Below.trod laidOut (by kernel_rfl) (of_decide_eq_true (by kernel_rfl)) h0 Rw lt0) trodAll_mk0),rfl,Rw.frame _,fun h=>by cases h⟩
theorem Cx{a b:Bool}(h:a=true)(g:b=true):(a&&b)=true:=by rw[h,g];rfl
theorem Ef{a b:Bool}(h:(a&&b)=true):a=true∧b=true:=by simpa using h
theorem akM:laidOutB Tryz.pinned.checked.prog=true:=laidOut
theorem aj9:(Rows.fnExactFileReadRow.wf (OpenSpec.ofChange Rows.fnExactFileReadSpec))=true:=by kernel_rfl
theorem aj_:(mapsRowed Tryz.pinned.checked.prog)=true:=by kernel_rfl
theorem akb:(Tryz.f7.params.all (Tryz.pinned.checked.prog.readableRec ·)&&namedTie Tryz.pinned.checked.prog Rows.fnExactFileReadRow.named Rows.fnExactFileReadSpec.vars&&(Rows.fnExactFileReadRow.stops==[])&&(Tryz.pinned.checked.prog.stops==[])&&(Rows.fnExactFileReadRow.knobs==[])&&(Tryz.pinned.checked.prog.stopKnobs==[]))=true:=by kernel_rfl
theorem akc:((Rows.fnExactFileReadRow.inPlace==Tryz.pinned.checked.prog.inPlace 7)&&(Rows.fnExactFileReadRow.unfollowed==Tryz.pinned.checked.prog.unfollowed 7)&&(Rows.fnExactFileReadRow.recurses==Tryz.pinned.checked.prog.recurses 7)&&(Rows.fnExactFileReadRow.named==Tryz.pinned.checked.prog.varsNamed 7))=true:=by kernel_rfl
theorem akd:((Rows.fnExactFileReadRow.maps==(Tryz.f7.params.toList++Rows.fnExactFileReadSpec.plain.varTypes Tryz.pinned.checked.prog).any (Tryz.pinned.checked.prog.mapsRec ·))&&(Rows.fnExactFileReadRow.ifaces==(Tryz.f7.params.toList++Rows.fnExactFileReadSpec.plain.varTypes Tryz.pinned.checked.prog).any (Tryz.pinned.checked.prog.ifacesRec ·))&&(Rows.fnExactFileReadRow.mapsOut==Tryz.pinned.checked.prog.mapsAmong Tryz.f7.resultTypes.toList)&&(Rows.fnExactFileReadRow.loops==(Tryz.f7.params.toList++Rows.fnExactFileReadSpec.plain.varTypes Tryz.pinned.checked.prog).any (Tryz.pinned.checked.prog.loopsFrom ·))&&(Rows.fnExactFileReadRow.wideKeys==(Tryz.f7.params.toList++Rows.fnExactFileReadSpec.plain.varTypes Tryz.pinned.checked.prog++Tryz.f7.resultTypes.toList).any (Tryz.pinned.checked.prog.wideKeysFrom ·))&&Rows.fnExactFileReadSpec.vars.all (Tryz.pinned.checked.prog.varReadable ·)&&Tryz.f7.resultTypes.all (fun t=>Tryz.pinned.checked.prog.readableRec t&&decide (t<Tryz.pinned.checked.prog.types.size))&&(Rows.fnExactFileReadRow.ifacesOut==Tryz.f7.resultTypes.toList.any (Tryz.pinned.checked.prog.ifacesRec ·))&&(Rows.fnExactFileReadRow.loopsOut==Tryz.f7.resultTypes.toList.any (Tryz.pinned.checked.prog.loopsFrom ·)))=true:=by kernel_rfl
theorem ake:((Rows.fnExactFileReadRow.plainKeys==Tryz.pinned.checked.prog.plainKeys))=true:=by kernel_rfl
theorem akf:(Rows.fnExactFileReadRow.shortTexts.isNone&&Tryz.pinned.checked.prog.stopsHeard&&Tryz.pinned.checked.prog.mayEnter)=true:=by kernel_rfl
theorem akg:((Rows.fnExactFileReadRow.lifted==Tryz.pinned.checked.prog.liftsFinal))=true:=by kernel_rfl
theorem akh:((Tryz.pinned.checked.prog.make==some Rows.fnExactFileReadRow.make))=true:=by kernel_rfl
theorem aki:((Rows.fnExactFileReadRow.kinds==(if Rows.fnExactFileReadRow.domain.isEmpty then[] else Tryz.f7.params.toList.map fun t=>match Tryz.pinned.checked.prog.underlying t with|some (.int k)=>some k|_=>none))&&(Rows.fnExactFileReadRow.pinned==Rows.fnExactFileReadRow.pinnedBy))=true:=by kernel_rfl
theorem aka:((Rows.fnExactFileReadRow.veiled==(Tryz.f7.params.toList++Rows.fnExactFileReadSpec.plain.varTypes Tryz.pinned.checked.prog++Tryz.f7.resultTypes.toList).any (Tryz.pinned.checked.prog.veiledRec ·))&&Rows.fnExactFileReadRow.veiledFits Tryz.pinned.checked.prog Tryz.f7.params.toList (Tryz.f7.params.toList++Rows.fnExactFileReadSpec.plain.varTypes Tryz.pinned.checked.prog++Tryz.f7.resultTypes.toList))=true:=by kernel_rfl
set_option maxRecDepth 100000 in
theorem closed:joinedFacts Tryz.pinned.checked.prog 7 Tryz.f7 Rows.fnExactFileReadSpec Rows.fnExactFileReadRow=true:=by
 obtain⟨h8,k8⟩:=Ef akb;obtain⟨h7,k7⟩:=Ef h8;obtain⟨h6,k6⟩:=Ef h7;obtain⟨h5,k5⟩:=Ef h6;obtain⟨h4,k4⟩:=Ef h5;obtain⟨h12,k12⟩:=Ef akc;obtain⟨h11,k11⟩:=Ef h12;obtain⟨h10,k10⟩:=Ef h11;obtain⟨h21,k21⟩:=Ef akd;obtain⟨h20,k20⟩:=Ef h21;obtain⟨h19,k19⟩:=Ef h20;obtain⟨h18,k18⟩:=Ef h19;obtain⟨h17,k17⟩:=Ef h18;obtain⟨h16,k16⟩:=Ef h17;obtain⟨Il,k15⟩:=Ef h16;obtain⟨h14,k14⟩:=Ef Il;obtain⟨KN,k25⟩:=Ef akf;obtain⟨OC,k24⟩:=Ef KN;obtain⟨h29,k29⟩:=Ef aki;obtain⟨h31,k31⟩:=Ef aka;unfold joinedFacts;exact(Cx (Cx (Cx (Cx (Cx (Cx (Cx (Cx (Cx (Cx (Cx (Cx (Cx (Cx (Cx (Cx (Cx (Cx (Cx (Cx (Cx (Cx (Cx (Cx (Cx (Cx (Cx (Cx (Cx (Cx (Cx aj9 akM) aj_) h4) k4) k5) k6) k7) k8) h10) k10) k11) k12) h14) k14) k15) k16) k17) k18) k19) k20) k21) ake) OC) k24) k25) akg) akh) h29) k29) h31) k31)
theorem named:Tryz.pinned.checked.prog.funcNamed Rows.fnExactFileReadRow.func=some 7:=by kernel_rfl
theorem inst:Tryz.f7.isInstance Tryz.pinned.checked.prog Rows.fnExactFileReadRow.origin Rows.fnExactFileReadRow.targs:=of_decide_eq_true (by kernel_rfl)
theorem wrapper:Tryz.f7.isWrapper Tryz.pinned.checked.prog Rows.fnExactFileReadRow.wrapper Rows.fnExactFileReadRow.mainSum:=by unfold Func.isWrapper;first|(rw[if_pos (by decide+kernel)];kernel_rfl)|(rw[if_neg (by decide+kernel)];exact⟨rfl,rfl⟩)
theorem over:Rows.fnExactFileReadRow.holds Tryz.pinned (OpenSpec.ofChange Rows.fnExactFileReadSpec):=
 OpenClaim.holds_of_wide 7 Tryz.f7 rfl rfl rfl rfl rfl rfl rfl ⟨rfl,rfl,rfl,rfl,rfl⟩ rfl rfl rfl rfl rfl named Tryz.func7 closed inst wrapper
  (fun os started H enc _=>lifted os started H enc)
end Go.Proofs.YtohaijhiclmkkaaGreat.fnExactFileRead
namespace Go.Proofs.YtohaijhiclmkkaaGreat
theorem fnExactFileRead_holds:Rows.FnExactFileReadSaid:=fnExactFileRead.over
#print axioms fnExactFileRead_holds
end Go.Proofs.YtohaijhiclmkkaaGreat
