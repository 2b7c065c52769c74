/- the claim's statement -/
import Derived.Test.YtohaijhiclmkkaaGreatRows
import Derived.Test.YtohaijhiclmkkaaGreatEPOW0
import Derived.Test.YtohaijhiclmkkaaGreatLawEPO2
import Derived.Test.YtohaijhiclmkkaaGreatAmRow
namespace Go.Proofs.YtohaijhiclmkkaaGreat.fnExactPagesOf
open Go.ChangeShapes Go.WideShapes Go.ChangeAt Go.RowKit
open Go.ChangeMaps (open_string shut_string)
set_option linter.unusedVariables false
theorem own:ownKnob Tryz.prog.godebug=none:=by kernel_rfl
theorem laidOut:laidOutB Tryz.prog=true:=by kernel_rfl
set_option maxRecDepth 100000 in
theorem lifted (os:Os) (started:os.Started) (H:Type) (enc:TypeId×Value→H):
 ReturnsInHanded {} Tryz.checked os 4 .any (Rows.fnExactPagesOfSpec.pre6 enc Tryz.prog Tryz.f4 Rows.fnExactPagesOfRow.domain false) (Rows.fnExactPagesOfSpec.post enc Tryz.prog Tryz.f4 false true false false):=by
 refine returnsInHanded_of_change_sized (C:=Tryz.checked) own started (by kernel_rfl) Tryz.func4
  (ChangeSpec.witness6 (enc:=enc) (C:=Tryz.checked) false ⟨#[],#[.slice none 0 0],[]⟩ 8 (by kernel_rfl) (by kernel_rfl) (by kernel_rfl) (by kernel_rfl)) ?_
 intro W base args ds gs before hval0 hW hcnd hsz0 _
 have hval:∀(j:Nat) t v,Tryz.f4.params[j]?=some t→args[j]?=some v→Value.okWide Tryz.prog W .any base t v:=hval0
 have hW':=hW
 obtain ⟨p,q,hA0,hV,rfl,hfz,hnd⟩:=hW
 have hA:DataW.TrodAll enc Tryz.prog W 0 (fun _=>true) true Tryz.f4.params.toList args.toList ds p:=hA0
 rw [Tryz.params4] at hA hval
 obtain ⟨v0,vs0,d0,ds0,p0,q0,hargs,rfl,rfl,h0,r0⟩:=trodAll_cons hA
 obtain ⟨rfl,rfl,rfl⟩:=trodAll_nil r0
 obtain rfl:args= #[v0]:=by cases args;simp_all
 obtain ⟨rfl,rfl⟩:=trodVars_none hV
 have lt0:∀x∈p0,x.block<W.heap.size:=by obtain ⟨m,hm⟩:=h0;exact DataW.trod_lt m _ _ _ hm
 have m0:Go.Am.mkV false v0.cells.toList v0:=by obtain ⟨a,b,c,e⟩:=okWide_slice Tryz.underlying24 (hval 0 24 v0 rfl rfl);subst e;rfl
 obtain ⟨y0,g0,e0⟩:=Go.Am.arg_rep (u:=(.list 5 (.int .u8))) (by kernel_rfl) rfl m0 h0
 clear hA0 hval0 hsz0
 obtain ⟨k,hk⟩:=Go.Law.fnExactPagesOf y0 g0
 refine (Go.Am.law_calls (w:=W) (inS:=(Go.Proofs.YtohaijhiclmkkaaGreat.f4c k).inS.1) (x:=y0) (fn:=Tryz.f4) (code:=Go.Am.bodyOf Tryz.f4) (Go.Proofs.YtohaijhiclmkkaaGreat.f4ok k) (by kernel_rfl) (by kernel_rfl) (by decide) rfl hk (fun s=>by
  match s with
  |0=>exact e0 _ _
  |s+1=>exact trivial)).mono fun e W' ⟨he,bel⟩=> ?_
 subst he
 exact ⟨_,rfl,_,_,_,[],_,[],hW',trodAll_mk1 (shut_bool Tryz.underlying4 _),(trodAll_cons_mk (Below.trod laidOut (by kernel_rfl) (of_decide_eq_true (by kernel_rfl)) h0 bel lt0) trodAll_mk0),rfl,bel.frame _,fun h=>by cases h⟩
theorem andI {a b:Bool} (h:a=true) (g:b=true):(a&&b)=true:=by rw [h,g];rfl
theorem andE {a b:Bool} (h:(a&&b)=true):a=true∧b=true:=by simpa using h
theorem part1:laidOutB Tryz.pinned.checked.prog=true:=laidOut
theorem look0:(Rows.fnExactPagesOfRow.wf (OpenSpec.ofChange Rows.fnExactPagesOfSpec))=true:=by kernel_rfl
theorem look1:(mapsRowed Tryz.pinned.checked.prog)=true:=by kernel_rfl
theorem look2:(Tryz.f4.params.all (Tryz.pinned.checked.prog.readableRec ·)&&namedTie Tryz.pinned.checked.prog Rows.fnExactPagesOfRow.named Rows.fnExactPagesOfSpec.vars&&(Rows.fnExactPagesOfRow.stops==[])&&(Tryz.pinned.checked.prog.stops==[])&&(Rows.fnExactPagesOfRow.knobs==[])&&(Tryz.pinned.checked.prog.stopKnobs==[]))=true:=by kernel_rfl
theorem look3:((Rows.fnExactPagesOfRow.inPlace==Tryz.pinned.checked.prog.inPlace 4)&&(Rows.fnExactPagesOfRow.unfollowed==Tryz.pinned.checked.prog.unfollowed 4)&&(Rows.fnExactPagesOfRow.recurses==Tryz.pinned.checked.prog.recurses 4)&&(Rows.fnExactPagesOfRow.named==Tryz.pinned.checked.prog.varsNamed 4))=true:=by kernel_rfl
theorem look4:((Rows.fnExactPagesOfRow.maps==(Tryz.f4.params.toList++Rows.fnExactPagesOfSpec.plain.varTypes Tryz.pinned.checked.prog).any (Tryz.pinned.checked.prog.mapsRec ·))&&(Rows.fnExactPagesOfRow.ifaces==(Tryz.f4.params.toList++Rows.fnExactPagesOfSpec.plain.varTypes Tryz.pinned.checked.prog).any (Tryz.pinned.checked.prog.ifacesRec ·))&&(Rows.fnExactPagesOfRow.mapsOut==Tryz.pinned.checked.prog.mapsAmong Tryz.f4.resultTypes.toList)&&(Rows.fnExactPagesOfRow.loops==(Tryz.f4.params.toList++Rows.fnExactPagesOfSpec.plain.varTypes Tryz.pinned.checked.prog).any (Tryz.pinned.checked.prog.loopsFrom ·))&&(Rows.fnExactPagesOfRow.wideKeys==(Tryz.f4.params.toList++Rows.fnExactPagesOfSpec.plain.varTypes Tryz.pinned.checked.prog++Tryz.f4.resultTypes.toList).any (Tryz.pinned.checked.prog.wideKeysFrom ·))&&Rows.fnExactPagesOfSpec.vars.all (Tryz.pinned.checked.prog.varReadable ·)&&Tryz.f4.resultTypes.all (fun t=>Tryz.pinned.checked.prog.readableRec t&&decide (t<Tryz.pinned.checked.prog.types.size))&&(Rows.fnExactPagesOfRow.ifacesOut==Tryz.f4.resultTypes.toList.any (Tryz.pinned.checked.prog.ifacesRec ·))&&(Rows.fnExactPagesOfRow.loopsOut==Tryz.f4.resultTypes.toList.any (Tryz.pinned.checked.prog.loopsFrom ·)))=true:=by kernel_rfl
theorem look5:((Rows.fnExactPagesOfRow.plainKeys==Tryz.pinned.checked.prog.plainKeys))=true:=by kernel_rfl
theorem look6:(Rows.fnExactPagesOfRow.shortTexts.isNone&&Tryz.pinned.checked.prog.stopsHeard&&Tryz.pinned.checked.prog.mayEnter)=true:=by kernel_rfl
theorem look7:((Rows.fnExactPagesOfRow.lifted==Tryz.pinned.checked.prog.liftsFinal))=true:=by kernel_rfl
theorem look8:((Tryz.pinned.checked.prog.make==some Rows.fnExactPagesOfRow.make))=true:=by kernel_rfl
theorem look9:((Rows.fnExactPagesOfRow.kinds==(if Rows.fnExactPagesOfRow.domain.isEmpty then [] else Tryz.f4.params.toList.map fun t=>match Tryz.pinned.checked.prog.underlying t with|some (.int k)=>some k|_=>none))&&(Rows.fnExactPagesOfRow.pinned==Rows.fnExactPagesOfRow.pinnedBy))=true:=by kernel_rfl
theorem look10:((Rows.fnExactPagesOfRow.veiled==(Tryz.f4.params.toList++Rows.fnExactPagesOfSpec.plain.varTypes Tryz.pinned.checked.prog++Tryz.f4.resultTypes.toList).any (Tryz.pinned.checked.prog.veiledRec ·))&&Rows.fnExactPagesOfRow.veiledFits Tryz.pinned.checked.prog Tryz.f4.params.toList (Tryz.f4.params.toList++Rows.fnExactPagesOfSpec.plain.varTypes Tryz.pinned.checked.prog++Tryz.f4.resultTypes.toList))=true:=by kernel_rfl
set_option maxRecDepth 100000 in
theorem closed:joinedFacts Tryz.pinned.checked.prog 4 Tryz.f4 Rows.fnExactPagesOfSpec Rows.fnExactPagesOfRow=true:=by
 obtain ⟨h8,k8⟩:=andE look2
 obtain ⟨h7,k7⟩:=andE h8
 obtain ⟨h6,k6⟩:=andE h7
 obtain ⟨h5,k5⟩:=andE h6
 obtain ⟨h4,k4⟩:=andE h5
 obtain ⟨h12,k12⟩:=andE look3
 obtain ⟨h11,k11⟩:=andE h12
 obtain ⟨h10,k10⟩:=andE h11
 obtain ⟨h21,k21⟩:=andE look4
 obtain ⟨h20,k20⟩:=andE h21
 obtain ⟨h19,k19⟩:=andE h20
 obtain ⟨h18,k18⟩:=andE h19
 obtain ⟨h17,k17⟩:=andE h18
 obtain ⟨h16,k16⟩:=andE h17
 obtain ⟨h15,k15⟩:=andE h16
 obtain ⟨h14,k14⟩:=andE h15
 obtain ⟨h25,k25⟩:=andE look6
 obtain ⟨h24,k24⟩:=andE h25
 obtain ⟨h29,k29⟩:=andE look9
 obtain ⟨h31,k31⟩:=andE look10
 unfold joinedFacts
 exact (andI (andI (andI (andI (andI (andI (andI (andI (andI (andI (andI (andI (andI (andI (andI (andI (andI (andI (andI (andI (andI (andI (andI (andI (andI (andI (andI (andI (andI (andI (andI look0 part1) look1) h4) k4) k5) k6) k7) k8) h10) k10) k11) k12) h14) k14) k15) k16) k17) k18) k19) k20) k21) look5) h24) k24) k25) look7) look8) h29) k29) h31) k31)
theorem named:Tryz.pinned.checked.prog.funcNamed Rows.fnExactPagesOfRow.func=some 4:=by kernel_rfl
theorem inst:Tryz.f4.isInstance Tryz.pinned.checked.prog Rows.fnExactPagesOfRow.origin Rows.fnExactPagesOfRow.targs:=of_decide_eq_true (by kernel_rfl)
theorem wrapper:Tryz.f4.isWrapper Tryz.pinned.checked.prog Rows.fnExactPagesOfRow.wrapper Rows.fnExactPagesOfRow.mainSum:=by unfold Func.isWrapper;first|(rw [if_pos (by decide+kernel)];kernel_rfl)|(rw [if_neg (by decide+kernel)];exact ⟨rfl,rfl⟩)
theorem over:Rows.fnExactPagesOfRow.holds Tryz.pinned (OpenSpec.ofChange Rows.fnExactPagesOfSpec):=
 OpenClaim.holds_of_wide 4 Tryz.f4 rfl rfl rfl rfl rfl rfl rfl ⟨rfl,rfl,rfl,rfl,rfl⟩ rfl rfl rfl rfl rfl named Tryz.func4 closed inst wrapper
  (fun os started H enc _=>lifted os started H enc)
end Go.Proofs.YtohaijhiclmkkaaGreat.fnExactPagesOf
namespace Go.Proofs.YtohaijhiclmkkaaGreat
theorem fnExactPagesOf_holds:Rows.FnExactPagesOfSaid:=fnExactPagesOf.over
#print axioms fnExactPagesOf_holds
end Go.Proofs.YtohaijhiclmkkaaGreat
