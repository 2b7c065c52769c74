/- the claim's statement -/
import Derived.Test.YtohaijhiclmkkaaGreatRows
import Derived.Test.YtohaijhiclmkkaaGreatESTW0
import Derived.Test.YtohaijhiclmkkaaGreatLawEST2
import Derived.Test.YtohaijhiclmkkaaGreatAmRow
namespace Go.Proofs.YtohaijhiclmkkaaGreat.fnExactStripes
open Go.ChangeShapes Go.WideShapes Go.ChangeAt Go.RowKit
open Go.ChangeMaps (open_string shut_string)
set_option linter.unusedVariables false
theorem own:ownKnob Tryz.prog.godebug=none:=by kernel_rfl
theorem laidOut:laidOutB Tryz.prog=true:=by kernel_rfl
set_option maxRecDepth 100000 in
theorem lifted(os:Os)(started:os.Started)(H:Type)(enc:TypeId×Value→H):
 ReturnsInHanded {} Tryz.checked os 6 .any (Rows.fnExactStripesSpec.pre6 enc Tryz.prog Tryz.f6 Rows.fnExactStripesRow.domain false) (Rows.fnExactStripesSpec.post enc Tryz.prog Tryz.f6 false true false false):=by
 refine returnsInHanded_of_change_sized (C:=Tryz.checked) own started (by kernel_rfl) Tryz.func6
  (ChangeSpec.witness6 (enc:=enc) (C:=Tryz.checked) false ⟨#[],#[.slice none 0 0,.agg #[.slice none 0 0,.int .i64 0,.slice none 0 0],.int .i64 0],[]⟩ 8 (by kernel_rfl) (by kernel_rfl) (by kernel_rfl) (by kernel_rfl)) ?_
 intro W base args ds gs before hval0 hW hcnd hsz0 _;have hval:∀(j:Nat) t v,Tryz.f6.params[j]?=some t→args[j]?=some v→Value.okWide Tryz.prog W .any base t v:=hval0;have hW':=hW;obtain⟨p,q,Ni,hV,rfl,hfz,hnd⟩:=hW;have hA:DataW.TrodAll enc Tryz.prog W 0 (fun _=>true) true Tryz.f6.params.toList args.toList ds p:=Ni;rw[Tryz.params6] at hA hval;obtain⟨v0,vs0,d0,ds0,p0,q0,hargs,rfl,rfl,h0,r0⟩:=trodAll_cons hA;obtain⟨v1,vs1,d1,ds1,p1,q1,rfl,rfl,rfl,h1,r1⟩:=trodAll_cons r0;obtain⟨v2,vs2,d2,ds2,p2,q2,rfl,rfl,rfl,h2,r2⟩:=trodAll_cons r1;obtain⟨rfl,rfl,rfl⟩:=trodAll_nil r2;obtain rfl:args= #[v0,v1,v2]:=by cases args;simp_all
 obtain⟨rfl,rfl⟩:=trodVars_none hV;have lt0:∀x∈p0,x.block<W.heap.size:=by obtain⟨m,hm⟩:=h0;exact DataW.trod_lt m _ _ _ hm
 have m0:Go.Am.mkV false v0.cells.toList v0:=by obtain⟨a,b,c,e⟩:=okWide_slice Tryz.underlying24 (hval 0 24 v0 rfl rfl);subst e;rfl
 obtain⟨y0,g0,e0⟩:=Go.Am.yM (u:=(.list 5 (.int .u8))) (by kernel_rfl) rfl m0 h0;have lt1:∀x∈p1,x.block<W.heap.size:=by obtain⟨m,hm⟩:=h1;exact DataW.trod_lt m _ _ _ hm
 have m1:Go.Am.mkV true v1.cells.toList v1:=by obtain⟨a,e,_⟩:=okWide_struct Tryz.underlying59 (hval 1 59 v1 rfl rfl);subst e;simp[Go.Am.mkV,Value.cells]
 obtain⟨y1,g1,e1⟩:=Go.Am.yM (u:=(.st (.cons (.list 194 (.st (.cons .str (.cons (.int .i64) (.cons (.int .i64) (.cons (.int .i64) .nil)))))) (.cons (.int .i64) (.cons (.list 198 (.st (.cons (.int .i64) (.cons (.list 47 (.st (.cons (.int .i64) (.cons (.int .i64) (.cons (.int .i64) (.cons (.int .i64) (.cons (.int .i64) (.cons (.list 3 (.int .i64)) .nil)))))))) .nil)))) .nil))))) (by kernel_rfl) rfl m1 h1;have lt2:∀x∈p2,x.block<W.heap.size:=by obtain⟨m,hm⟩:=h2;exact DataW.trod_lt m _ _ _ hm
 have m2:Go.Am.mkV false v2.cells.toList v2:=by obtain⟨a,e⟩:=okWide_int Tryz.underlying3 (hval 2 3 v2 rfl rfl);subst e;rfl
 obtain⟨y2,g2,e2⟩:=Go.Am.yM (u:=(.int .i64)) (by kernel_rfl) rfl m2 h2;clear Ni hval0 hsz0;obtain⟨k,hk⟩:=Go.zJ.fnExactStripes y0 g0 y1 g1 y2 g2
 refine(Go.Am.yR (w:=W) (aV:=(Go.Proofs.YtohaijhiclmkkaaGreat.Nc k).aV.1) (x:=(y0,y1,y2)) (fn:=Tryz.f6) (code:=Go.Am.qF Tryz.f6) (Go.Proofs.YtohaijhiclmkkaaGreat.Nf k) (by kernel_rfl) (by kernel_rfl) (by decide) rfl hk (fun s=>by
  match s with
  |0=>exact e0 _ _
  |1=>exact e1 _ _
  |2=>exact e2 _ _
  |s+3=>exact trivial)).mono fun e W' ⟨he,JW⟩=> ?_
 subst he;exact⟨_,rfl,_,_,_,[],_,[],hW',trodAll_mk1 (shut_bool Tryz.underlying4 _),(trodAll_cons_mk (Below.trod laidOut (by kernel_rfl) (of_decide_eq_true (by kernel_rfl)) h0 JW lt0) (trodAll_cons_mk (Below.trod laidOut (by kernel_rfl) (of_decide_eq_true (by kernel_rfl)) h1 JW lt1) (trodAll_cons_mk (Below.trod laidOut (by kernel_rfl) (of_decide_eq_true (by kernel_rfl)) h2 JW lt2) trodAll_mk0))),rfl,JW.frame _,fun h=>by cases h⟩
theorem AQ{a b:Bool}(h:a=true)(g:b=true):(a&&b)=true:=by rw[h,g];rfl
theorem Cu{a b:Bool}(h:(a&&b)=true):a=true∧b=true:=by simpa using h
theorem aa2:laidOutB Tryz.pinned.checked.prog=true:=laidOut
theorem aau:(Rows.fnExactStripesRow.wf (OpenSpec.ofChange Rows.fnExactStripesSpec))=true:=by kernel_rfl
theorem aav:(mapsRowed Tryz.pinned.checked.prog)=true:=by kernel_rfl
theorem aax:(Tryz.f6.params.all (Tryz.pinned.checked.prog.readableRec ·)&&namedTie Tryz.pinned.checked.prog Rows.fnExactStripesRow.named Rows.fnExactStripesSpec.vars&&(Rows.fnExactStripesRow.stops==[])&&(Tryz.pinned.checked.prog.stops==[])&&(Rows.fnExactStripesRow.knobs==[])&&(Tryz.pinned.checked.prog.stopKnobs==[]))=true:=by kernel_rfl
theorem aay:((Rows.fnExactStripesRow.inPlace==Tryz.pinned.checked.prog.inPlace 6)&&(Rows.fnExactStripesRow.unfollowed==Tryz.pinned.checked.prog.unfollowed 6)&&(Rows.fnExactStripesRow.recurses==Tryz.pinned.checked.prog.recurses 6)&&(Rows.fnExactStripesRow.named==Tryz.pinned.checked.prog.varsNamed 6))=true:=by kernel_rfl
theorem aaz:((Rows.fnExactStripesRow.maps==(Tryz.f6.params.toList++Rows.fnExactStripesSpec.plain.varTypes Tryz.pinned.checked.prog).any (Tryz.pinned.checked.prog.mapsRec ·))&&(Rows.fnExactStripesRow.ifaces==(Tryz.f6.params.toList++Rows.fnExactStripesSpec.plain.varTypes Tryz.pinned.checked.prog).any (Tryz.pinned.checked.prog.ifacesRec ·))&&(Rows.fnExactStripesRow.mapsOut==Tryz.pinned.checked.prog.mapsAmong Tryz.f6.resultTypes.toList)&&(Rows.fnExactStripesRow.loops==(Tryz.f6.params.toList++Rows.fnExactStripesSpec.plain.varTypes Tryz.pinned.checked.prog).any (Tryz.pinned.checked.prog.loopsFrom ·))&&(Rows.fnExactStripesRow.wideKeys==(Tryz.f6.params.toList++Rows.fnExactStripesSpec.plain.varTypes Tryz.pinned.checked.prog++Tryz.f6.resultTypes.toList).any (Tryz.pinned.checked.prog.wideKeysFrom ·))&&Rows.fnExactStripesSpec.vars.all (Tryz.pinned.checked.prog.varReadable ·)&&Tryz.f6.resultTypes.all (fun t=>Tryz.pinned.checked.prog.readableRec t&&decide (t<Tryz.pinned.checked.prog.types.size))&&(Rows.fnExactStripesRow.ifacesOut==Tryz.f6.resultTypes.toList.any (Tryz.pinned.checked.prog.ifacesRec ·))&&(Rows.fnExactStripesRow.loopsOut==Tryz.f6.resultTypes.toList.any (Tryz.pinned.checked.prog.loopsFrom ·)))=true:=by kernel_rfl
theorem aaA:((Rows.fnExactStripesRow.plainKeys==Tryz.pinned.checked.prog.plainKeys))=true:=by kernel_rfl
theorem aaB:(Rows.fnExactStripesRow.shortTexts.isNone&&Tryz.pinned.checked.prog.stopsHeard&&Tryz.pinned.checked.prog.mayEnter)=true:=by kernel_rfl
theorem aaC:((Rows.fnExactStripesRow.lifted==Tryz.pinned.checked.prog.liftsFinal))=true:=by kernel_rfl
theorem aaD:((Tryz.pinned.checked.prog.make==some Rows.fnExactStripesRow.make))=true:=by kernel_rfl
theorem aaE:((Rows.fnExactStripesRow.kinds==(if Rows.fnExactStripesRow.domain.isEmpty then[] else Tryz.f6.params.toList.map fun t=>match Tryz.pinned.checked.prog.underlying t with|some (.int k)=>some k|_=>none))&&(Rows.fnExactStripesRow.pinned==Rows.fnExactStripesRow.pinnedBy))=true:=by kernel_rfl
theorem aaw:((Rows.fnExactStripesRow.veiled==(Tryz.f6.params.toList++Rows.fnExactStripesSpec.plain.varTypes Tryz.pinned.checked.prog++Tryz.f6.resultTypes.toList).any (Tryz.pinned.checked.prog.veiledRec ·))&&Rows.fnExactStripesRow.veiledFits Tryz.pinned.checked.prog Tryz.f6.params.toList (Tryz.f6.params.toList++Rows.fnExactStripesSpec.plain.varTypes Tryz.pinned.checked.prog++Tryz.f6.resultTypes.toList))=true:=by kernel_rfl
set_option maxRecDepth 100000 in
theorem closed:joinedFacts Tryz.pinned.checked.prog 6 Tryz.f6 Rows.fnExactStripesSpec Rows.fnExactStripesRow=true:=by
 obtain⟨h8,k8⟩:=Cu aax;obtain⟨h7,k7⟩:=Cu h8;obtain⟨h6,k6⟩:=Cu h7;obtain⟨h5,k5⟩:=Cu h6;obtain⟨h4,k4⟩:=Cu h5;obtain⟨h12,k12⟩:=Cu aay;obtain⟨h11,k11⟩:=Cu h12;obtain⟨h10,k10⟩:=Cu h11;obtain⟨h21,k21⟩:=Cu aaz;obtain⟨h20,k20⟩:=Cu h21;obtain⟨h19,k19⟩:=Cu h20;obtain⟨h18,k18⟩:=Cu h19;obtain⟨ZX,k17⟩:=Cu h18;obtain⟨h16,k16⟩:=Cu ZX;obtain⟨EW,k15⟩:=Cu h16;obtain⟨ZU,k14⟩:=Cu EW;obtain⟨G9,k25⟩:=Cu aaB;obtain⟨Z0,k24⟩:=Cu G9;obtain⟨Z6,k29⟩:=Cu aaE;obtain⟨h31,k31⟩:=Cu aaw;unfold joinedFacts;exact(AQ (AQ (AQ (AQ (AQ (AQ (AQ (AQ (AQ (AQ (AQ (AQ (AQ (AQ (AQ (AQ (AQ (AQ (AQ (AQ (AQ (AQ (AQ (AQ (AQ (AQ (AQ (AQ (AQ (AQ (AQ aau aa2) aav) h4) k4) k5) k6) k7) k8) h10) k10) k11) k12) ZU) k14) k15) k16) k17) k18) k19) k20) k21) aaA) Z0) k24) k25) aaC) aaD) Z6) k29) h31) k31)
theorem named:Tryz.pinned.checked.prog.funcNamed Rows.fnExactStripesRow.func=some 6:=by kernel_rfl
theorem inst:Tryz.f6.isInstance Tryz.pinned.checked.prog Rows.fnExactStripesRow.origin Rows.fnExactStripesRow.targs:=of_decide_eq_true (by kernel_rfl)
theorem wrapper:Tryz.f6.isWrapper Tryz.pinned.checked.prog Rows.fnExactStripesRow.wrapper Rows.fnExactStripesRow.mainSum:=by unfold Func.isWrapper;first|(rw[if_pos (by decide+kernel)];kernel_rfl)|(rw[if_neg (by decide+kernel)];exact⟨rfl,rfl⟩)
theorem over:Rows.fnExactStripesRow.holds Tryz.pinned (OpenSpec.ofChange Rows.fnExactStripesSpec):=
 OpenClaim.holds_of_wide 6 Tryz.f6 rfl rfl rfl rfl rfl rfl rfl ⟨rfl,rfl,rfl,rfl,rfl⟩ rfl rfl rfl rfl rfl named Tryz.func6 closed inst wrapper
  (fun os started H enc _=>lifted os started H enc)
end Go.Proofs.YtohaijhiclmkkaaGreat.fnExactStripes
namespace Go.Proofs.YtohaijhiclmkkaaGreat
theorem fnExactStripes_holds:Rows.FnExactStripesSaid:=fnExactStripes.over
#print axioms fnExactStripes_holds
end Go.Proofs.YtohaijhiclmkkaaGreat
