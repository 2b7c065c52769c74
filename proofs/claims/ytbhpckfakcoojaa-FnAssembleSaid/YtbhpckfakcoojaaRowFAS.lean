/- the claim's statement -/
import Derived.Test.YtbhpckfakcoojaaRows
import Derived.Test.YtbhpckfakcoojaaFASW0
import Derived.Test.YtbhpckfakcoojaaLawFAS1
import Derived.Test.YtbhpckfakcoojaaAmRow
namespace Go.Proofs.Ytbhpckfakcoojaa.fnAssemble
open Go.ChangeShapes Go.WideShapes Go.ChangeAt Go.RowKit
open Go.ChangeMaps (open_string shut_string)
set_option linter.unusedVariables false
theorem own:ownKnob Try.prog.godebug=none:=by kernel_rfl
theorem laidOut:laidOutB Try.prog=true:=by kernel_rfl
set_option maxRecDepth 100000 in
theorem lifted(os:Os)(started:os.Started)(H:Type)(enc:TypeId×Value→H):
 ReturnsInHanded {} Try.checked os 3 .any (Rows.fnAssembleSpec.pre6 enc Try.prog Try.f3 Rows.fnAssembleRow.domain false) (Rows.fnAssembleSpec.post enc Try.prog Try.f3 false true false false):=by
 refine returnsInHanded_of_change_sized (C:=Try.checked) own started (by kernel_rfl) Try.func3
  (ChangeSpec.witness6 (enc:=enc) (C:=Try.checked) false ⟨#[],#[.slice none 0 0],[]⟩ 8 (by kernel_rfl) (by kernel_rfl) (by kernel_rfl) (by kernel_rfl)) ?_
 intro W base args ds gs before hval0 hW hcnd hsz0 _;have hval:∀(j:Nat) t v,Try.f3.params[j]?=some t→args[j]?=some v→Value.okWide Try.prog W .any base t v:=hval0;have hW':=hW;obtain⟨p,q,KA,hV,rfl,hfz,hnd⟩:=hW;have hA:DataW.TrodAll enc Try.prog W 0 (fun _=>true) true Try.f3.params.toList args.toList ds p:=KA;rw[Try.params3] at hA hval;obtain⟨v0,UO,d0,ds0,p0,q0,hargs,rfl,rfl,h0,r0⟩:=trodAll_cons hA;obtain⟨rfl,rfl,rfl⟩:=trodAll_nil r0;obtain rfl:args= #[v0]:=by cases args;simp_all
 obtain⟨rfl,rfl⟩:=trodVars_none hV;have Tv:∀x∈p0,x.block<W.heap.size:=by obtain⟨m,hm⟩:=h0;exact DataW.trod_lt m _ _ _ hm
 have m0:Go.Am.mkV false v0.cells.toList v0:=by obtain⟨a,b,c,e⟩:=okWide_slice Try.underlying22 (hval 0 22 v0 rfl rfl);subst e;rfl
 obtain⟨y0,g0,e0⟩:=Go.Am.zi (u:=(.list 5 (.int .u8))) (by kernel_rfl) rfl m0 h0;clear KA hval0 hsz0;obtain⟨k,hk⟩:=Go.BA.fnAssemble y0
 refine(Go.Am.zu (w:=W) (aZ:=(Go.Proofs.Ytbhpckfakcoojaa.Kh k).aZ.1) (x:=y0) (fn:=Try.f3) (code:=Go.Am.qU Try.f3) (Go.Proofs.Ytbhpckfakcoojaa.Ki k) (by kernel_rfl) (by kernel_rfl) (by decide) rfl hk (fun s=>by
  match s with
  |0=>exact e0 _ _
  |s+1=>exact trivial)).mono fun e W' ⟨he,JW⟩=> ?_
 subst he;exact⟨_,rfl,_,_,_,[],_,[],hW',trodAll_mk1 (shut_bool Try.underlying4 _),(trodAll_cons_mk (Below.trod laidOut (by kernel_rfl) (of_decide_eq_true (by kernel_rfl)) h0 JW Tv) trodAll_mk0),rfl,JW.frame _,fun h=>by cases h⟩
theorem Bw{a b:Bool}(h:a=true)(g:b=true):(a&&b)=true:=by rw[h,g];rfl
theorem CU{a b:Bool}(h:(a&&b)=true):a=true∧b=true:=by simpa using h
theorem TD:laidOutB Try.pinned.checked.prog=true:=laidOut
theorem Te:(Rows.fnAssembleRow.wf (OpenSpec.ofChange Rows.fnAssembleSpec))=true:=by kernel_rfl
theorem Tf:(mapsRowed Try.pinned.checked.prog)=true:=by kernel_rfl
theorem Ti:(Try.f3.params.all (Try.pinned.checked.prog.readableRec ·)&&namedTie Try.pinned.checked.prog Rows.fnAssembleRow.named Rows.fnAssembleSpec.vars&&(Rows.fnAssembleRow.stops==[])&&(Try.pinned.checked.prog.stops==[])&&(Rows.fnAssembleRow.knobs==[])&&(Try.pinned.checked.prog.stopKnobs==[]))=true:=by kernel_rfl
theorem Tj:((Rows.fnAssembleRow.inPlace==Try.pinned.checked.prog.inPlace 3)&&(Rows.fnAssembleRow.unfollowed==Try.pinned.checked.prog.unfollowed 3)&&(Rows.fnAssembleRow.recurses==Try.pinned.checked.prog.recurses 3)&&(Rows.fnAssembleRow.named==Try.pinned.checked.prog.varsNamed 3))=true:=by kernel_rfl
theorem Tm:((Rows.fnAssembleRow.maps==(Try.f3.params.toList++Rows.fnAssembleSpec.plain.varTypes Try.pinned.checked.prog).any (Try.pinned.checked.prog.mapsRec ·))&&(Rows.fnAssembleRow.ifaces==(Try.f3.params.toList++Rows.fnAssembleSpec.plain.varTypes Try.pinned.checked.prog).any (Try.pinned.checked.prog.ifacesRec ·))&&(Rows.fnAssembleRow.mapsOut==Try.pinned.checked.prog.mapsAmong Try.f3.resultTypes.toList)&&(Rows.fnAssembleRow.loops==(Try.f3.params.toList++Rows.fnAssembleSpec.plain.varTypes Try.pinned.checked.prog).any (Try.pinned.checked.prog.loopsFrom ·))&&(Rows.fnAssembleRow.wideKeys==(Try.f3.params.toList++Rows.fnAssembleSpec.plain.varTypes Try.pinned.checked.prog++Try.f3.resultTypes.toList).any (Try.pinned.checked.prog.wideKeysFrom ·))&&Rows.fnAssembleSpec.vars.all (Try.pinned.checked.prog.varReadable ·)&&Try.f3.resultTypes.all (fun t=>Try.pinned.checked.prog.readableRec t&&decide (t<Try.pinned.checked.prog.types.size))&&(Rows.fnAssembleRow.ifacesOut==Try.f3.resultTypes.toList.any (Try.pinned.checked.prog.ifacesRec ·))&&(Rows.fnAssembleRow.loopsOut==Try.f3.resultTypes.toList.any (Try.pinned.checked.prog.loopsFrom ·)))=true:=by kernel_rfl
theorem Tn:((Rows.fnAssembleRow.plainKeys==Try.pinned.checked.prog.plainKeys))=true:=by kernel_rfl
theorem Tp:(Rows.fnAssembleRow.shortTexts.isNone&&Try.pinned.checked.prog.stopsHeard&&Try.pinned.checked.prog.mayEnter)=true:=by kernel_rfl
theorem Tq:((Rows.fnAssembleRow.lifted==Try.pinned.checked.prog.liftsFinal))=true:=by kernel_rfl
theorem Tt:((Try.pinned.checked.prog.make==some Rows.fnAssembleRow.make))=true:=by kernel_rfl
theorem Tu:((Rows.fnAssembleRow.kinds==(if Rows.fnAssembleRow.domain.isEmpty then[] else Try.f3.params.toList.map fun t=>match Try.pinned.checked.prog.underlying t with|some (.int k)=>some k|_=>none))&&(Rows.fnAssembleRow.pinned==Rows.fnAssembleRow.pinnedBy))=true:=by kernel_rfl
theorem Tg:((Rows.fnAssembleRow.veiled==(Try.f3.params.toList++Rows.fnAssembleSpec.plain.varTypes Try.pinned.checked.prog++Try.f3.resultTypes.toList).any (Try.pinned.checked.prog.veiledRec ·))&&Rows.fnAssembleRow.veiledFits Try.pinned.checked.prog Try.f3.params.toList (Try.f3.params.toList++Rows.fnAssembleSpec.plain.varTypes Try.pinned.checked.prog++Try.f3.resultTypes.toList))=true:=by kernel_rfl
set_option maxRecDepth 100000 in
theorem closed:joinedFacts Try.pinned.checked.prog 3 Try.f3 Rows.fnAssembleSpec Rows.fnAssembleRow=true:=by
 obtain⟨h8,k8⟩:=CU Ti;obtain⟨h7,k7⟩:=CU h8;obtain⟨h6,k6⟩:=CU h7;obtain⟨h5,k5⟩:=CU h6;obtain⟨h4,k4⟩:=CU h5;obtain⟨h12,k12⟩:=CU Tj;obtain⟨h11,k11⟩:=CU h12;obtain⟨h10,k10⟩:=CU h11;obtain⟨h21,k21⟩:=CU Tm;obtain⟨h20,k20⟩:=CU h21;obtain⟨h19,k19⟩:=CU h20;obtain⟨h18,k18⟩:=CU h19;obtain⟨R3,k17⟩:=CU h18;obtain⟨h16,k16⟩:=CU R3;obtain⟨RZ,k15⟩:=CU h16;obtain⟨RY,k14⟩:=CU RZ;obtain⟨Ir,k25⟩:=CU Tp;obtain⟨R4,k24⟩:=CU Ir;obtain⟨R5,SK⟩:=CU Tu;obtain⟨h31,SL⟩:=CU Tg;unfold joinedFacts;exact(Bw (Bw (Bw (Bw (Bw (Bw (Bw (Bw (Bw (Bw (Bw (Bw (Bw (Bw (Bw (Bw (Bw (Bw (Bw (Bw (Bw (Bw (Bw (Bw (Bw (Bw (Bw (Bw (Bw (Bw (Bw Te TD) Tf) h4) k4) k5) k6) k7) k8) h10) k10) k11) k12) RY) k14) k15) k16) k17) k18) k19) k20) k21) Tn) R4) k24) k25) Tq) Tt) R5) SK) h31) SL)
theorem named:Try.pinned.checked.prog.funcNamed Rows.fnAssembleRow.func=some 3:=by kernel_rfl
theorem inst:Try.f3.isInstance Try.pinned.checked.prog Rows.fnAssembleRow.origin Rows.fnAssembleRow.targs:=of_decide_eq_true (by kernel_rfl)
theorem wrapper:Try.f3.isWrapper Try.pinned.checked.prog Rows.fnAssembleRow.wrapper Rows.fnAssembleRow.mainSum:=by unfold Func.isWrapper;first|(rw[if_pos (by decide+kernel)];kernel_rfl)|(rw[if_neg (by decide+kernel)];exact⟨rfl,rfl⟩)
theorem over:Rows.fnAssembleRow.holds Try.pinned (OpenSpec.ofChange Rows.fnAssembleSpec):=
 OpenClaim.holds_of_wide 3 Try.f3 rfl rfl rfl rfl rfl rfl rfl ⟨rfl,rfl,rfl,rfl,rfl⟩ rfl rfl rfl rfl rfl named Try.func3 closed inst wrapper
  (fun os started H enc _=>lifted os started H enc)
end Go.Proofs.Ytbhpckfakcoojaa.fnAssemble
namespace Go.Proofs.Ytbhpckfakcoojaa
theorem fnAssemble_holds:Rows.FnAssembleSaid:=fnAssemble.over
#print axioms fnAssemble_holds
end Go.Proofs.Ytbhpckfakcoojaa
