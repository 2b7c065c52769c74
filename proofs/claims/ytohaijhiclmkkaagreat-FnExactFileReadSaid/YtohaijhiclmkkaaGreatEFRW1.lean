/- walks through the claim's functions -/
import Derived.Test.YtohaijhiclmkkaaGreatEFRW0
set_option linter.unusedVariables false
set_option maxRecDepth 100000
namespace Go.Proofs.YtohaijhiclmkkaaGreat
open Go.Am Go.Am.W Go.Fn
def Xg:SS:=⟨[(0,z4),(1,z66),(7,z66),(8,z4),(9,z4)],[]⟩
def Xe(k:Nat):bZ:=⟨⟨[(0,z4),(1,z66)],[]⟩,⟨[(0,z6)],[]⟩,2,1,fun x=>Ht k x.1 x.2⟩
theorem Xf(k:Nat):fM Tryz.prog 124 (Xe k):=ok (cx [f193 k,f203 k] 25 nb) Tryz.f124 fun h x=>Q (Q (X h) (Q (B (L Xg (fun n x=>Ht.l2 k n x.1 x.2.1 x.2.2.1 x.2.2.2.1 x.2.2.2.2) k fun n2=>X h)) (X h))) (X h)
def f124(k:Nat):Fc Tryz.prog:=⟨124,_,Xf k⟩
def ag9:SS:=⟨[(1,z4),(5,z2),(6,z4),(7,z4),(17,z23),(18,z4),(19,z4),(24,z4),(25,z4)],[(100,w5)]⟩
def ag8:SS:=⟨[(1,z4),(5,z2),(17,z23),(18,z4),(19,z4)],[(100,w5)]⟩
def ag6(k:Nat):bZ:=⟨⟨[(0,z23),(1,z4)],[]⟩,⟨[(0,z2)],[(100,w5)]⟩,2,1,fun x=>En k x.1 x.2⟩
theorem ag7(k:Nat):fM Tryz.prog 337 (ag6 k):=ok (cx [] 51 nb) Tryz.f337 fun h x=>Q (Q (Q (X h) (Q (B (L ag8 (fun n x=>En.l3 k n x.1.1 x.1.2.2.1 x.1.2.2.2.1 x.1.2.2.2.2 x.2) k fun n3=>Q (Q (Q (X h) (B (Q (Q (B (L ag9 (fun n x=>En.l6 k (En.l3 k n3) n x.1.1 x.1.2.2.1 x.1.2.2.2.1 x.1.2.2.2.2.1 x.1.2.2.2.2.2.1 x.1.2.2.2.2.2.2.1 x.1.2.2.2.2.2.2.2.1 x.1.2.2.2.2.2.2.2.2 x.2) k fun n6=>X h)) (X h)) (X h)))) (X h)) (X h))) (X h))) (X h)) (X h)
def f337(k:Nat):Fc Tryz.prog:=⟨337,_,ag7 k⟩
def ahb:SS:=⟨[(3,z2),(7,z66),(8,z4),(9,z4)],[(100,zm)]⟩
def ag_(k:Nat):bZ:=⟨⟨[(0,z66)],[]⟩,⟨[(0,z2)],[(100,zm)]⟩,1,1,fun x=>Jf k x⟩
theorem aha(k:Nat):fM Tryz.prog 338 (ag_ k):=ok (cx [] 20 nb) Tryz.f338 fun h x=>Q (Q (Q (X h) (Q (B (L ahb (fun n x=>Jf.l3 k n x.1.2.1 x.1.2.2.1 x.1.2.2.2 x.2) k fun n3=>X h)) (X h))) (X h)) (X h)
def f338(k:Nat):Fc Tryz.prog:=⟨338,_,aha k⟩
def ahe:SS:=⟨[(0,z4),(5,z2),(11,z4),(12,z4)],[(100,w5)]⟩
def ahc(k:Nat):bZ:=⟨⟨[(0,z4),(1,z4)],[]⟩,⟨[(0,z2)],[(100,w5)]⟩,2,1,fun x=>Gq k x.1 x.2⟩
theorem ahd(k:Nat):fM Tryz.prog 339 (ahc k):=ok (cx [f85 k] 25 nb) Tryz.f339 fun h x=>Q (Q (Q (Q (X h) (Q (B (L ahe (fun n x=>Gq.l5 k n x.1.1 x.1.2.2.1 x.1.2.2.2 x.2) k fun n5=>X h)) (X h))) (X h)) (X h)) (X h)
def f339(k:Nat):Fc Tryz.prog:=⟨339,_,ahd k⟩
def ag4:SS:=⟨[(0,z4),(6,z2),(19,z66),(20,z4),(21,z4)],[(100,w5)]⟩
def ag1:SS:=⟨[(0,z4),(6,z2),(8,z36),(19,z66),(20,z4),(21,z4)],[(100,w5),(101,Fp)]⟩
def ag2:SS:=⟨[(0,z4),(6,z2),(8,z36),(19,z66),(20,z4),(21,z4)],[(100,w5),(101,Fp)]⟩
def ag5:SS:=⟨[(0,z4),(6,z2),(19,z66),(20,z4),(21,z4)],[(100,w5)]⟩
def ag0(k:Nat):bZ:=⟨⟨[(0,z4),(1,z66)],[]⟩,⟨[(0,z2),(1,z6)],[(100,w5)]⟩,2,2,fun x=>CE k x.1 x.2⟩
theorem ag3(k:Nat):fM Tryz.prog 336 (ag0 k):=ok (cx [f124 k,f194 k,f337 k,f338 k,f339 k] 45 nb) Tryz.f336 fun h x=>Q (Q (Q (Q (Q (X h) (Q (B (L ag5 (fun n x=>CE.l7 k n x.1.1 x.1.2.2.1 x.1.2.2.2.1 x.1.2.2.2.2 x.2) k fun n7=>Q (Q (Q (T (X h) ag4 fun x=>CE.c12 k (CE.l7 k n7) x.1.1 x.1.2.2.1 x.1.2.2.2.1 x.1.2.2.2.2 x.2) (B (Q (Q (D (K h ag1 (fun x=>CE.d10 k (CE.l7 k n7) x.1.1 x.1.2.2.2.1 x.1.2.2.2.2.1 x.1.2.2.2.2.2 x.2.1 x.2.2) [[0,1,6,2,3,4,5,7,8,9],[0,1,6,2,3,4,7,5,8,9],[0,1,6,2,3,7,4,5,8,9],[0,1,6,7,2,3,4,5,8,9]] (O (fun x=>by kernel_rfl) (O (fun x=>by kernel_rfl) (O (fun x=>by kernel_rfl) (O (fun x=>by kernel_rfl) (N)))))) (K h ag2 (fun x=>CE.d11 k (CE.l7 k n7) x.1.1 x.1.2.2.2.1 x.1.2.2.2.2.1 x.1.2.2.2.2.2 x.2.1 x.2.2) [[0,1,3,2,4,5,6,7],[0,1,3,4,2,5,6,7]] (O (fun x=>by kernel_rfl) (O (fun x=>by kernel_rfl) (N))))) (X h)) (X h)))) (X h)) (X h))) (X h))) (X h)) (X h)) (X h)) (X h)
def f336(k:Nat):Fc Tryz.prog:=⟨336,_,ag3 k⟩
def agY(k:Nat):bZ:=⟨⟨[(0,z4),(1,z65)],[]⟩,⟨[(0,z8)],[]⟩,2,1,fun x=>Qv k x.1 x.2⟩
theorem agZ(k:Nat):fM Tryz.prog 335 (agY k):=ok (cx [f336 k] 20 nb) Tryz.f335 fun h x=>X h
def f335(k:Nat):Fc Tryz.prog:=⟨335,_,agZ k⟩
def agB(k:Nat):bZ:=⟨⟨[(0,z4),(1,z8)],[]⟩,⟨[(0,z62),(1,z6)],[]⟩,2,2,fun x=>KU k x.1 x.2⟩
theorem agC(k:Nat):fM Tryz.prog 325 (agB k):=ok (cx [f195 k,f203 k,f335 k] 46 nb) Tryz.f325 fun h x=>X h
def f325(k:Nat):Fc Tryz.prog:=⟨325,_,agC k⟩
def aeO(k:Nat):bZ:=⟨⟨[(0,z4)],[]⟩,⟨[(0,z4)],[]⟩,1,1,fun x=>OQ k x⟩
theorem aeP(k:Nat):fM Tryz.prog 292 (aeO k):=ok (cx [] 8 nb) Tryz.f292 fun h x=>X h
def f292(k:Nat):Fc Tryz.prog:=⟨292,_,aeP k⟩
def ab0:SS:=⟨[(4,zT),(5,z36)],[(100,Fp),(101,Fp)]⟩
def abZ(k:Nat):bZ:=⟨⟨[(0,z4),(1,z65),(2,z65)],[]⟩,⟨[(0,z6)],[]⟩,3,1,fun x=>J_ k x.1 x.2.1 x.2.2⟩
theorem ab1(k:Nat):fM Tryz.prog 232 (abZ k):=ok (cx [f203 k,f292 k] 39 nb) Tryz.f232 fun h x=>Q (Q (Q (X h) (Q (B (Q (D (Q (X h) (K h ab0 (fun x=>J_.d5 k x.2.1 x.2.2) [[0,3,1,2,4,5,6,7],[0,3,1,4,2,5,6,7],[0,3,4,1,2,5,6,7]] (O (fun x=>by kernel_rfl) (O (fun x=>by kernel_rfl) (O (fun x=>by kernel_rfl) (N)))))) (X h)) (X h))) (X h))) (X h)) (X h)
def f232(k:Nat):Fc Tryz.prog:=⟨232,_,ab1 k⟩
def agD(k:Nat):bZ:=⟨⟨[(0,z60),(1,(.ro MF))],[]⟩,⟨[(0,z6)],[]⟩,2,1,fun x=>Ng k x.1 x.2⟩
theorem agE(k:Nat):fM Tryz.prog 326 (agD k):=ok (cx [f85 k,f183 k,f203 k,f232 k] 49 nb) Tryz.f326 fun h x=>X h
def f326(k:Nat):Fc Tryz.prog:=⟨326,_,agE k⟩
def afr:SS:=⟨[(4,zT),(6,z36),(10,z26)],[(0,FV),(10,zm),(100,BL),(101,K9),(102,K9)]⟩
def afp:SS:=⟨[(4,zT),(6,z36),(10,z26),(15,z43),(17,z54)],[(0,FV),(10,zm),(100,BL),(101,K9),(102,K9),(103,Fp),(104,Fp)]⟩
def afo(k:Nat):bZ:=⟨⟨[(0,z83),(1,z60),(2,z4)],[(0,Kv),(10,zm)]⟩,⟨[(0,z70),(1,z6)],[(0,FV),(10,zm)]⟩,3,2,fun x=>F6 k x.1.2.1 x.1.2.2 x.2.1 x.2.2⟩
theorem afq(k:Nat):fM Tryz.prog 304 (afo k):=ok (cx [f183 k,f186 k,f187 k,f251 k,f325 k,f326 k] 99 (fun s=>Nat.beq s 39)) Tryz.f304 fun h x=>Q (Q (Q (Q (Q (T (X h) afr fun x=>F6.c13 k x.2.1 x.2.2.1 x.2.2.2.1 x.2.2.2.2.1 x.2.2.2.2.2) (Q (D (Q (Q (Q (Q (Q (K h afp (fun x=>F6.d12 k x.2.1 x.2.2.1 x.2.2.2.1 x.2.2.2.2.1 x.2.2.2.2.2.1 x.2.2.2.2.2.2.1 x.2.2.2.2.2.2.2) [[2,0,1,3,4,5,6,7],[2,0,3,4,1,5,6,7],[2,0,3,4,5,1,6,7],[2,1,0,3,4,5,6,7],[2,1,3,0,4,5,6,7],[2,3,0,4,1,5,6,7],[2,3,0,4,5,1,6,7]] (O (fun x=>by kernel_rfl) (O (fun x=>by kernel_rfl) (O (fun x=>by kernel_rfl) (O (fun x=>by kernel_rfl) (O (fun x=>by kernel_rfl) (O (fun x=>by kernel_rfl) (O (fun x=>by kernel_rfl) (N))))))))) (X h)) (X h)) (X h)) (X h)) (X h)) (X h)) (X h))) (X h)) (X h)) (X h)) (X h)
def f304(k:Nat):Fc Tryz.prog:=⟨304,_,afq k⟩
def ac2(k:Nat):bZ:=⟨⟨[(0,z83),(1,z60),(2,z4),(3,(.p 3))],[(0,Gg),(3,BP),(10,Cq),(11,zm)]⟩,⟨[],[(0,Gg),(3,BP),(10,Cq),(11,zm)]⟩,4,0,fun x=>Nb k x.1.2.1 x.1.2.2.1 x.2.1 x.2.2.1 x.2.2.2.1 x.2.2.2.2⟩
theorem ac3(k:Nat):fM Tryz.prog 253 (ac2 k):=ok (cx [f187 k,f304 k] 37 nb) Tryz.f253 fun h x=>X h
def ac1(k:Nat):Fc Tryz.prog:=⟨253,_,ac3 k⟩
def Z6:SS:=⟨[(0,z83),(2,(.p 2))],[(0,Gg),(2,BP),(10,Cq),(11,zm)]⟩
def Z7:SS:=⟨[(0,z83),(2,(.p 2)),(4,zT)],[(0,Gg),(2,BP),(10,Cq),(11,zm),(100,BL)]⟩
def Z5:SS:=⟨[(0,z83),(2,(.p 2)),(4,zT)],[(0,Gg),(2,BP),(10,Cq),(11,zm),(100,BL)]⟩
def Z0(k:Nat):bZ:=⟨⟨[(0,z83),(1,z60),(2,(.p 2))],[(0,Gg),(2,BP),(10,Cq),(11,zm)]⟩,⟨[],[(0,Gg),(2,BP),(10,Cq),(11,zm)]⟩,3,0,fun x=>Cs k x.1.2.1 x.2.1 x.2.2.1 x.2.2.2.1 x.2.2.2.2⟩
theorem Z4(k:Nat):fM Tryz.prog 188 (Z0 k):=ok (cx [R9 k,R_ k,f187 k,acY k,ac1 k] 127 (fun s=>Nat.beq s 26)) Tryz.f188 fun h x=>Q (Q (T (X h) Z6 fun x=>Cs.c23 k x.2.1 x.2.2.1 x.2.2.2.1 x.2.2.2.2) (Q (B (Q (D (Q (Q (Q (T (X h) Z7 fun x=>Cs.c8 k x.2.1 x.2.2.1 x.2.2.2.1 x.2.2.2.2.1 x.2.2.2.2.2) (X h)) (X h)) (X h)) (Q (D (Q (Q (Q (Q (Q (Q (Q (Q (T (X h) Z5 fun x=>Cs.c19 k x.2.1 x.2.2.1 x.2.2.2.1 x.2.2.2.2.1 x.2.2.2.2.2) (X h)) (X h)) (X h)) (X h)) (X h)) (X h)) (X h)) (X h)) (X h)) (X h))) (X h))) (X h))) (X h)
def ZZ(k:Nat):Fc Tryz.prog:=⟨188,_,Z4 k⟩
def WM:SS:=⟨[(1,z1),(3,zT),(6,z36),(9,z4),(13,z26),(14,z43),(15,z54),(16,z6)],[(100,BL),(101,BP),(102,Ux),(103,BP),(104,Mw),(105,Uy),(106,zm)]⟩
def WS:SS:=⟨[(1,z1),(3,zT),(6,z36),(9,z4),(13,z26),(14,z43),(15,z54),(16,z6)],[(100,BL),(101,BP),(102,Ux),(103,BP),(104,Mw),(105,Uy),(106,zm)]⟩
def WR:SS:=⟨[(1,z1),(3,zT),(6,z36),(9,z4),(11,z26),(13,z43),(14,z54)],[(100,BL),(101,BP),(102,Uz),(103,UA),(104,BP),(105,zm)]⟩
def WN:SS:=⟨[(1,z1),(3,zT),(6,z36),(9,z4),(11,z26),(13,z43),(14,z54)],[(100,BL),(101,BP),(102,Uz),(103,UA),(104,BP),(105,zm)]⟩
def WL(k:Nat):bZ:=⟨⟨[(0,z60),(1,z1),(2,z4)],[]⟩,⟨[(0,z73),(1,z4)],[]⟩,3,2,fun x=>Dk k x.1 x.2.1 x.2.2⟩
theorem WQ(k:Nat):fM Tryz.prog 118 (WL k):=ok (cx [f181 k,f182 k,f183 k,R9 k,R_ k,f186 k,f187 k,ZZ k] 100 nb) Tryz.f118 fun h x=>Q (Q (Q (Q (Q (Q (Q (Q (Q (T (Q (Q (T (Q (X h) (K h WM (fun x=>Dk.d14 k x.1.1 x.1.2.2.2.1 x.1.2.2.2.2.2.2.2 x.2.1 x.2.2.1 x.2.2.2.1 x.2.2.2.2.1 x.2.2.2.2.2.1 x.2.2.2.2.2.2.1 x.2.2.2.2.2.2.2) [[0,1,4,2,3,5,6,7],[0,1,4,5,2,3,6,7]] (O (fun x=>by kernel_rfl) (O (fun x=>by kernel_rfl) (N))))) WS fun x=>Dk.c14 k x.1.1 x.1.2.2.2.1 x.1.2.2.2.2.2.2.2 x.2.1 x.2.2.1 x.2.2.2.1 x.2.2.2.2.1 x.2.2.2.2.2.1 x.2.2.2.2.2.2.1 x.2.2.2.2.2.2.2) (X h)) (X h)) WR fun x=>Dk.c11 k x.1.1 x.1.2.2.2.1 x.2.1 x.2.2.1 x.2.2.2.1 x.2.2.2.2.1 x.2.2.2.2.2.1 x.2.2.2.2.2.2) (Q (X h) (K h WN (fun x=>Dk.d9 k x.1.1 x.1.2.2.2.1 x.2.1 x.2.2.1 x.2.2.2.1 x.2.2.2.2.1 x.2.2.2.2.2.1 x.2.2.2.2.2.2) [[0,2,1,3,4],[0,2,3,1,4]] (O (fun x=>by kernel_rfl) (O (fun x=>by kernel_rfl) (N)))))) (X h)) (X h)) (X h)) (X h)) (X h)) (X h)) (X h)) (X h)
def f118(k:Nat):Fc Tryz.prog:=⟨118,_,WQ k⟩
def afw:SS:=⟨[(0,z4),(4,z4)],[]⟩
def afv:SS:=⟨[(0,z4),(4,z4)],[]⟩
def afs(k:Nat):bZ:=⟨⟨[(0,z4)],[]⟩,⟨[(0,z4)],[]⟩,1,1,fun x=>E_ k x⟩
theorem afu(k:Nat):fM Tryz.prog 305 (afs k):=ok (cx [] 16 nb) Tryz.f305 fun h x=>Q (Q (X h) (Q (B (L afv (fun n x=>E_.l2 k n x.1 x.2) k fun n2=>Q (Q (Q (T (X h) afw fun x=>E_.c7 k (E_.l2 k n2) x.1 x.2) (X h)) (X h)) (X h))) (X h))) (X h)
def f305(k:Nat):Fc Tryz.prog:=⟨305,_,afu k⟩
def ac6:SS:=⟨[(1,z2),(4,z4)],[(100,zm)]⟩
def ac4(k:Nat):bZ:=⟨⟨[],[]⟩,⟨[(0,z2)],[(100,zm)]⟩,0,1,fun x=>Jd k⟩
theorem ac5(k:Nat):fM Tryz.prog 254 (ac4 k):=ok (cx [f305 k] 14 nb) Tryz.f254 fun h x=>Q (Q (Q (X h) (Q (B (L ac6 (fun n x=>Jd.l3 k n x.1.2 x.2) k fun n3=>X h)) (X h))) (X h)) (X h)
def f254(k:Nat):Fc Tryz.prog:=⟨254,_,ac5 k⟩
def Z_:SS:=⟨[(0,z4),(5,z2),(14,z1),(15,z4),(16,z4)],[(100,zm)]⟩
def Z8(k:Nat):bZ:=⟨⟨[(0,z4),(1,z1)],[]⟩,⟨[(0,z4)],[]⟩,2,1,fun x=>Jc k x.1 x.2⟩
theorem Z9(k:Nat):fM Tryz.prog 189 (Z8 k):=ok (cx [f85 k,f254 k] 34 nb) Tryz.f189 fun h x=>Q (Q (Q (Q (Q (X h) (Q (B (L Z_ (fun n x=>Jc.l6 k n x.1.1 x.1.2.2.1 x.1.2.2.2.1 x.1.2.2.2.2 x.2) k fun n6=>X h)) (X h))) (X h)) (X h)) (X h)) (X h)
def f189(k:Nat):Fc Tryz.prog:=⟨189,_,Z9 k⟩
def WT(k:Nat):bZ:=⟨⟨[(0,z1)],[]⟩,⟨[(0,z4)],[]⟩,1,1,fun x=>Na k x⟩
theorem WU(k:Nat):fM Tryz.prog 119 (WT k):=ok (cx [f189 k] 5 nb) Tryz.f119 fun h x=>X h
def f119(k:Nat):Fc Tryz.prog:=⟨119,_,WU k⟩
def ahQ:SS:=⟨[(6,zT),(9,z36),(11,z1)],[(100,BP),(101,BP)]⟩
def ahP(k:Nat):bZ:=⟨⟨[(0,z60),(1,z1),(2,z4)],[]⟩,⟨[(0,z73),(1,z1),(2,z4)],[]⟩,3,3,fun x=>Ir k x.1 x.2.1 x.2.2⟩
theorem ahR(k:Nat):fM Tryz.prog 59 (ahP k):=ok (cx [f118 k,f119 k] 44 nb) Tryz.f59 fun h x=>Q (Q (Q (Q (Q (X h) (Q (X h) (K h ahQ (fun x=>Ir.d5 k x.1.2.2 x.2.1 x.2.2) [[0,1,2,3,5,4,6,7,8],[0,1,2,3,5,6,4,7,8]] (O (fun x=>by kernel_rfl) (O (fun x=>by kernel_rfl) (N)))))) (X h)) (X h)) (X h)) (X h)
def f59(k:Nat):Fc Tryz.prog:=⟨59,_,ahR k⟩
def afD:SS:=⟨[(0,z87),(2,z4)],[]⟩
def afF:SS:=⟨[(0,z87),(2,z4)],[]⟩
def afE:SS:=⟨[(0,z87),(2,z4)],[]⟩
def afB(k:Nat):bZ:=⟨⟨[(0,z87)],[]⟩,⟨[(0,z4)],[]⟩,1,1,fun x=>bits_Len64 k x⟩
theorem afC(k:Nat):fM Tryz.prog 308 (afB k):=ok (cx [] 25 nb) Tryz.f308 fun h x=>Q (Q (T (Q (T (Q (T (X h) afD fun x=>bits_Len64.c10 k x.1 x.2) (X h)) afF fun x=>bits_Len64.c7 k x.1 x.2) (X h)) afE fun x=>bits_Len64.c4 k x.1 x.2) (X h)) (X h)
def f308(k:Nat):Fc Tryz.prog:=⟨308,_,afC k⟩
def adi(k:Nat):bZ:=⟨⟨[(0,z4)],[]⟩,⟨[(0,z4)],[]⟩,1,1,fun x=>Ka k x⟩
theorem adj(k:Nat):fM Tryz.prog 258 (adi k):=ok (cx [f308 k] 6 nb) Tryz.f258 fun h x=>X h
def f258(k:Nat):Fc Tryz.prog:=⟨258,_,adj k⟩
def ada(k:Nat):bZ:=⟨⟨[(0,z1),(1,z4),(2,z4)],[]⟩,⟨[(0,z4),(1,z4),(2,z6)],[]⟩,3,3,fun x=>O1 k x.1 x.2.1 x.2.2⟩
theorem adb(k:Nat):fM Tryz.prog 256 (ada k):=ok (cx [f130 k,f258 k,f306 k] 34 nb) Tryz.f256 fun h x=>X h
def f256(k:Nat):Fc Tryz.prog:=⟨256,_,adb k⟩
def aaf:SS:=⟨[(0,z1),(2,z4),(3,z4),(11,z2),(17,z4),(18,z4),(72,z4),(73,z4)],[(100,zm)]⟩
def aag:SS:=⟨[(0,z1),(1,z4),(2,z4),(3,z4),(11,z2)],[(100,zm)]⟩
def aad(k:Nat):bZ:=⟨⟨[(0,z1),(1,z4),(2,z4),(3,z4)],[]⟩,⟨[(0,z2),(1,z4),(2,z6)],[(100,zm)]⟩,4,3,fun x=>DC k x.1 x.2.1 x.2.2.1 x.2.2.2⟩
theorem aae(k:Nat):fM Tryz.prog 190 (aad k):=ok (cx [f85 k,f255 k,f256 k,f257 k] 110 nb) Tryz.f190 fun h x=>Q (Q (Q (Q (X h) (B (L aag (fun n x=>DC.l4 k n x.1.1 x.1.2.1 x.1.2.2.1 x.1.2.2.2.1 x.2) k fun n4=>Q (B (Q (Q (Q (Q (Q (X h) (Q (D (Q (Q (Q (X h) (Q (B (L aaf (fun n x=>DC.BX k (DC.l4 k n4) n x.1.1 x.1.2.1 x.1.2.2.1 x.1.2.2.2.2.1 x.1.2.2.2.2.2.1 x.1.2.2.2.2.2.2.1 x.1.2.2.2.2.2.2.2 x.2) k fun n15=>X h)) (X h))) (X h)) (X h)) (X h)) (X h))) (X h)) (X h)) (X h)) (X h))) (X h)))) (X h)) (X h)) (X h)
def f190(k:Nat):Fc Tryz.prog:=⟨190,_,aae k⟩
def aah(k:Nat):bZ:=⟨⟨[(0,z4)],[]⟩,⟨[(0,z4)],[]⟩,1,1,fun x=>M_ k x⟩
theorem aai(k:Nat):fM Tryz.prog 191 (aah k):=ok (cx [f258 k] 12 nb) Tryz.f191 fun h x=>X h
def f191(k:Nat):Fc Tryz.prog:=⟨191,_,aai k⟩
def WX:SS:=⟨[(3,z4),(11,z4),(12,z4),(14,z2),(71,z2),(72,z4),(73,z4)],[(100,zm)]⟩
def WV(k:Nat):bZ:=⟨⟨[(0,z1),(1,z4),(2,z4),(3,z4)],[]⟩,⟨[(0,z2),(1,z4),(2,z6)],[(100,zm)]⟩,4,3,fun x=>GI k x.1 x.2.1 x.2.2.1 x.2.2.2⟩
theorem WW(k:Nat):fM Tryz.prog 120 (WV k):=ok (cx [f85 k,f130 k,f190 k,f191 k] 85 nb) Tryz.f120 fun h x=>Q (Q (Q (Q (Q (Q (Q (Q (X h) (Q (B (L WX (fun n x=>GI.zY k n x.1.1 x.1.2.1 x.1.2.2.1 x.1.2.2.2.2.2.1 x.1.2.2.2.2.2.2 x.2) k fun n12=>X h)) (X h))) (X h)) (X h)) (X h)) (X h)) (X h)) (X h)) (X h)
def f120(k:Nat):Fc Tryz.prog:=⟨120,_,WW k⟩
def aam:SS:=⟨[(0,z23),(3,z4),(4,z4)],[]⟩
def aal:SS:=⟨[(0,z23)],[]⟩
def aaj(k:Nat):bZ:=⟨⟨[(0,z23)],[]⟩,⟨[(0,z4)],[]⟩,1,1,fun x=>F_ k x⟩
theorem aak(k:Nat):fM Tryz.prog 192 (aaj k):=ok (cx [] 25 nb) Tryz.f192 fun h x=>Q (Q (T (Q (Q (X h) (Q (B (L aam (fun n x=>F_.l5 k n x.1 x.2.1 x.2.2) k fun n5=>X h)) (X h))) (X h)) aal fun x=>F_.c3 k x) (X h)) (X h)
def f192(k:Nat):Fc Tryz.prog:=⟨192,_,aak k⟩
def WY(k:Nat):bZ:=⟨⟨[(0,z1),(1,z4),(2,z4)],[]⟩,⟨[(0,z2),(1,z6)],[(100,zm)]⟩,3,2,fun x=>Nf k x.1 x.2.1 x.2.2⟩
theorem WZ(k:Nat):fM Tryz.prog 121 (WY k):=ok (cx [f190 k,f191 k,f192 k] 47 nb) Tryz.f121 fun h x=>X h
def f121(k:Nat):Fc Tryz.prog:=⟨121,_,WZ k⟩
def ahU:SS:=⟨[(2,z1),(3,zT),(4,z36),(15,z4),(16,z38),(17,z6)],[(100,BL),(101,BP),(102,zm)]⟩
def ahT:SS:=⟨[(2,z1),(3,zT),(4,z36),(15,z4)],[(100,BL),(101,BP)]⟩
def ahS(k:Nat):bZ:=⟨⟨[(0,z60),(1,(.ro MG)),(2,z1)],[]⟩,⟨[(0,z2),(1,Bq),(2,z1),(3,z6)],[(100,zm),(101,zm)]⟩,3,4,fun x=>Hl k x.1 x.2.1 x.2.2⟩
theorem ahV(k:Nat):fM Tryz.prog 60 (ahS k):=ok (cx [f120 k,f121 k] 107 nb) Tryz.f60 fun h x=>Q (Q (Q (Q (Q (Q (X h) (K h ahU (fun x=>Hl.d13 k x.1.1 x.1.2.2.2.1 x.1.2.2.2.2.2 x.2.1 x.2.2.1 x.2.2.2) [[0,1,3,5,6,7,8,2,4,9,10,11,12,13,14]] (O (fun x=>by kernel_rfl) (N)))) (K h ahT (fun x=>Hl.d12 k x.1.1 x.1.2.2.2 x.2.1 x.2.2) [[0,1,4,5,6,7,2,3,8,9,10,11,12,13]] (O (fun x=>by kernel_rfl) (N)))) (X h)) (X h)) (X h)) (X h)
def f60(k:Nat):Fc Tryz.prog:=⟨60,_,ahV k⟩
def ahZ:SS:=⟨[(2,z23),(3,zT),(8,Bq),(9,z4),(13,z23),(14,z4),(15,z4)],[(100,BL),(101,EO)]⟩
def ahY:SS:=⟨[(2,z23),(3,zT),(8,Bq),(9,z4),(13,z23),(14,z4),(15,z4)],[(100,BL),(101,EO)]⟩
def ahW(k:Nat):bZ:=⟨⟨[(0,z60),(1,z23),(2,z23)],[]⟩,⟨[(0,z2),(1,z4)],[(100,EO)]⟩,3,2,fun x=>EH k x.1 x.2.1 x.2.2⟩
theorem ahX(k:Nat):fM Tryz.prog 61 (ahW k):=ok (cx [] 41 nb) Tryz.f61 fun h x=>Q (Q (Q (Q (X h) (Q (B (L ahY (fun n x=>EH.l4 k n x.1.1 x.1.2.2.2.1 x.1.2.2.2.2.1 x.1.2.2.2.2.2.1 x.1.2.2.2.2.2.2 x.2.1 x.2.2) k fun n4=>Q (Q (Q (T (X h) ahZ fun x=>EH.c9 k (EH.l4 k n4) x.1.1 x.1.2.2.2.1 x.1.2.2.2.2.1 x.1.2.2.2.2.2.1 x.1.2.2.2.2.2.2 x.2.1 x.2.2) (X h)) (X h)) (X h))) (X h))) (X h)) (X h)) (X h)
def f61(k:Nat):Fc Tryz.prog:=⟨61,_,ahX k⟩
def ah3:SS:=⟨[(3,z4),(6,z78),(7,z4),(8,z4)],[]⟩
def ah2:SS:=⟨[(3,z4),(6,z78),(7,z4),(8,z4)],[]⟩
def ah0(k:Nat):bZ:=⟨⟨[(0,z78)],[]⟩,⟨[(0,z4)],[]⟩,1,1,fun x=>Ei k x⟩
theorem ah1(k:Nat):fM Tryz.prog 62 (ah0 k):=ok (cx [] 19 nb) Tryz.f62 fun h x=>Q (Q (Q (X h) (Q (B (L ah2 (fun n x=>Ei.l3 k n x.1 x.2.1 x.2.2.1 x.2.2.2) k fun n3=>Q (Q (Q (T (X h) ah3 fun x=>Ei.c7 k (Ei.l3 k n3) x.1 x.2.1 x.2.2.1 x.2.2.2) (X h)) (X h)) (X h))) (X h))) (X h)) (X h)
def f62(k:Nat):Fc Tryz.prog:=⟨62,_,ah1 k⟩
def Xa:SS:=⟨[(0,z4),(1,z4),(23,z6)],[]⟩
def Xb:SS:=⟨[(0,z4),(1,z4),(5,z4),(6,z6)],[]⟩
def W9(k:Nat):bZ:=⟨⟨[(0,z4),(1,z4)],[]⟩,⟨[(0,z6)],[]⟩,2,1,fun x=>Gl k x.1 x.2⟩
theorem W_(k:Nat):fM Tryz.prog 122 (W9 k):=ok (cx [f193 k,f194 k] 35 nb) Tryz.f122 fun h x=>Q (Q (X h) (Q (B (Q (T (D (X h) (Q (D (X h) (Q (D (X h) (Q (T (X h) Xa fun x=>Gl.c11 k x.1 x.2.1 x.2.2) (X h))) (X h))) (X h))) Xb fun x=>Gl.c4 k x.1 x.2.1 x.2.2.1 x.2.2.2) (X h))) (X h))) (X h)
def f122(k:Nat):Fc Tryz.prog:=⟨122,_,W_ k⟩
def adr(k:Nat):bZ:=⟨⟨[(0,z83)],[(0,Ms),(10,zm)]⟩,⟨[(0,z4)],[(0,Ms),(10,zm)]⟩,1,1,fun x=>Gr k x.2.1 x.2.2⟩
theorem ads(k:Nat):fM Tryz.prog 261 (adr k):=ok (cx [f255 k] 35 nb) Tryz.f261 fun h x=>X h
def f261(k:Nat):Fc Tryz.prog:=⟨261,_,ads k⟩
def adv(k:Nat):bZ:=⟨⟨[(0,z83),(1,z4)],[(0,Ms),(10,zm)]⟩,⟨[(0,z4)],[(0,Ms),(10,zm)]⟩,2,1,fun x=>LQ k x.1.2 x.2.1 x.2.2⟩
theorem adw(k:Nat):fM Tryz.prog 263 (adv k):=ok (cx [] 40 nb) Tryz.f263 fun h x=>X h
def f263(k:Nat):Fc Tryz.prog:=⟨263,_,adw k⟩
def ady:SS:=⟨[(0,z83),(3,z4),(12,z4),(37,z2),(38,z4),(39,z4)],[(0,NP),(100,zm),(101,zm)]⟩
def adB:SS:=⟨[(0,z83),(3,z4),(37,z2),(38,z4),(39,z4)],[(0,NP),(100,zm),(101,zm)]⟩
def adA:SS:=⟨[(0,z83),(1,z4),(2,z4),(3,z4),(4,z4)],[(0,Ms),(10,zm)]⟩
def adx(k:Nat):bZ:=⟨⟨[(0,z83),(1,z4),(2,z4),(3,z4),(4,z4)],[(0,Ms),(10,zm)]⟩,⟨[],[(0,(.box y104 (.agg (.cons z1 (.cons z4 (.cons z6 (.cons z2 .nil))))))),(100,zm)]⟩,5,0,fun x=>DU k x.1.2.1 x.1.2.2.1 x.1.2.2.2.1 x.1.2.2.2.2 x.2.1 x.2.2⟩
theorem adz(k:Nat):fM Tryz.prog 264 (adx k):=ok (cx [f257 k,f263 k] 69 nb) Tryz.f264 fun h x=>Q (T (Q (Q (Q (B (L adB (fun n x=>DU.l5 k n x.1.2.1 x.1.2.2.2.1 x.1.2.2.2.2 x.2.1 x.2.2.1 x.2.2.2) k fun n5=>Q (Q (Q (X h) (B (Q (K h ady (fun x=>DU.d7 k (DU.l5 k n5) x.1.2.1 x.1.2.2.1 x.1.2.2.2.2.1 x.1.2.2.2.2.2 x.2.1 x.2.2.1 x.2.2.2) [[0,1,2,3,4,5,6,7,9,10,11,17,19,8,12,13,14,15,16,18,20,21,22,23,24,25],[0,1,2,3,4,5,6,7,9,10,11,17,19,12,13,14,8,15,16,18,20,21,22,23,24,25]] (O (fun x=>by kernel_rfl) (O (fun x=>by kernel_rfl) (N)))) (X h)))) (X h)) (X h))) (X h)) (X h)) (X h)) adA fun x=>DU.c2 k x.1.2.1 x.1.2.2.1 x.1.2.2.2.1 x.1.2.2.2.2 x.2.1 x.2.2) (X h)
def f264(k:Nat):Fc Tryz.prog:=⟨264,_,adz k⟩
def aaw:SS:=⟨[(0,z1),(7,zT),(9,z4),(10,z4),(12,z4),(13,z4),(14,z4),(15,z4)],[(100,NP),(101,zm)]⟩
def aaz:SS:=⟨[(0,z1),(7,zT),(9,z4),(10,z4),(12,z4),(13,z4),(14,z4),(15,z4)],[(100,NP),(101,zm)]⟩
def aay:SS:=⟨[(0,z1),(7,zT),(9,z4),(10,z4),(12,z4)],[(100,NP),(101,zm)]⟩
def aav(k:Nat):bZ:=⟨⟨[(0,z1),(1,z4)],[]⟩,⟨[(0,z2),(1,z4),(2,z6)],[(100,zm)]⟩,2,3,fun x=>BH k x.1 x.2⟩
theorem aax(k:Nat):fM Tryz.prog 196 (aav k):=ok (cx [f85 k,f261 k,f262 k,f263 k,f264 k] 155 nb) Tryz.f196 fun h x=>Q (Q (Q (Q (Q (Q (Q (Q (Q (Q (Q (Q (Q (X h) (B (L aay (fun n x=>BH.De k n x.1.1 x.1.2.2.1 x.1.2.2.2.1 x.1.2.2.2.2 x.2.1 x.2.2) k fun n16=>Q (B (Q (Q (Q (B (L aaz (fun n x=>BH.D_ k (BH.De k n16) n x.1.1 x.1.2.2.1 x.1.2.2.2.1 x.1.2.2.2.2.1 x.1.2.2.2.2.2.1 x.1.2.2.2.2.2.2.1 x.1.2.2.2.2.2.2.2 x.2.1 x.2.2) k fun n20=>Q (Q (X h) (B (K h aaw (fun x=>BH.d22 k (BH.D_ k (BH.De k n16) n20) x.1.1 x.1.2.2.1 x.1.2.2.2.1 x.1.2.2.2.2.1 x.1.2.2.2.2.2.1 x.1.2.2.2.2.2.2.1 x.1.2.2.2.2.2.2.2 x.2.1 x.2.2) [[0,1,2,3,4,5,6,9,10,11,12,13,7,8,14,15,16,17],[0,1,2,3,4,5,6,9,10,11,12,13,14,15,16,7,8,17]] (O (fun x=>by kernel_rfl) (O (fun x=>by kernel_rfl) (N)))))) (X h))) (X h)) (X h)) (X h))) (X h)))) (X h)) (X h)) (X h)) (X h)) (X h)) (X h)) (X h)) (X h)) (X h)) (X h)) (X h)) (X h)
def f196(k:Nat):Fc Tryz.prog:=⟨196,_,aax k⟩
def aaF:SS:=⟨[(0,z1),(8,z4),(10,z2),(23,Bq),(24,z4),(25,z4)],[(100,zg),(101,zm)]⟩
def aaD(k:Nat):bZ:=⟨⟨[(0,z1),(1,z4)],[]⟩,⟨[(0,z2),(1,z4),(2,z6)],[(100,zg)]⟩,2,3,fun x=>Hf k x.1 x.2⟩
theorem aaE(k:Nat):fM Tryz.prog 198 (aaD k):=ok (cx [f85 k,f196 k] 57 nb) Tryz.f198 fun h x=>Q (Q (Q (Q (Q (X h) (Q (B (L aaF (fun n x=>Hf.l6 k n x.1.1 x.1.2.1 x.1.2.2.2.2.1 x.1.2.2.2.2.2 x.2.1 x.2.2) k fun n6=>X h)) (X h))) (X h)) (X h)) (X h)) (X h)
def f198(k:Nat):Fc Tryz.prog:=⟨198,_,aaE k⟩
def aaI:SS:=⟨[(10,z2),(11,z4),(12,Bq),(13,z8),(42,z38),(43,z4),(44,z4)],[(100,zg),(101,zg),(102,zm)]⟩
def aaG(k:Nat):bZ:=⟨⟨[(0,z1),(1,z4)],[]⟩,⟨[(0,z2),(1,z4),(2,z6)],[(100,zg)]⟩,2,3,fun x=>Ip k x.1 x.2⟩
theorem aaH(k:Nat):fM Tryz.prog 199 (aaG k):=ok (cx [f85 k,f196 k,f198 k] 82 nb) Tryz.f199 fun h x=>Q (Q (Q (Q (Q (Q (Q (Q (X h) (Q (B (L aaI (fun n x=>Ip.l10 k n x.1.2.1 x.1.2.2.2.1 x.1.2.2.2.2.2.1 x.1.2.2.2.2.2.2 x.2.1 x.2.2.1 x.2.2.2) k fun n10=>X h)) (X h))) (X h)) (X h)) (X h)) (X h)) (X h)) (X h)) (X h)
def f199(k:Nat):Fc Tryz.prog:=⟨199,_,aaH k⟩
def adC(k:Nat):bZ:=⟨⟨[(0,z4)],[]⟩,⟨[(0,z4)],[]⟩,1,1,fun x=>OU k x⟩
theorem adD(k:Nat):fM Tryz.prog 265 (adC k):=ok (cx [f194 k] 5 nb) Tryz.f265 fun h x=>X h
def f265(k:Nat):Fc Tryz.prog:=⟨265,_,adD k⟩
def aaO:SS:=⟨[(1,z1),(2,z4),(3,z4),(11,z4),(12,z2),(13,z4),(14,z4),(43,z4),(44,z4),(47,z4),(48,z4)],[(100,zg)]⟩
def aaP:SS:=⟨[(1,z1),(2,z4),(3,z4),(11,z4),(12,z2),(43,z4),(44,z4)],[(100,zg)]⟩
def aaM(k:Nat):bZ:=⟨⟨[(0,z4),(1,z1),(2,z4),(3,z4)],[]⟩,⟨[(0,z2),(1,z4),(2,z6)],[(100,zg)]⟩,4,3,fun x=>Ej k x.1 x.2.1 x.2.2.1 x.2.2.2⟩
theorem aaN(k:Nat):fM Tryz.prog 200 (aaM k):=ok (cx [f85 k,f265 k,f266 k] 82 nb) Tryz.f200 fun h x=>Q (Q (Q (Q (Q (X h) (Q (B (L aaP (fun n x=>Ej.l6 k n x.1.1 x.1.2.1 x.1.2.2.1 x.1.2.2.2.1 x.1.2.2.2.2.2.1 x.1.2.2.2.2.2.2 x.2) k fun n6=>Q (Q (Q (X h) (B (Q (Q (Q (X h) (Q (B (L aaO (fun n x=>Ej.l10 k (Ej.l6 k n6) n x.1.1 x.1.2.1 x.1.2.2.1 x.1.2.2.2.1 x.1.2.2.2.2.2.1 x.1.2.2.2.2.2.2.1 x.1.2.2.2.2.2.2.2.1 x.1.2.2.2.2.2.2.2.2.1 x.1.2.2.2.2.2.2.2.2.2.1 x.1.2.2.2.2.2.2.2.2.2.2 x.2) k fun n10=>X h)) (X h))) (X h)) (X h)))) (X h)) (X h))) (X h))) (X h)) (X h)) (X h)) (X h)
def f200(k:Nat):Fc Tryz.prog:=⟨200,_,aaN k⟩
def aaS:SS:=⟨[(3,z4),(11,z2),(12,z4),(38,z2),(39,z4),(40,z4)],[(100,zm)]⟩
def aaQ(k:Nat):bZ:=⟨⟨[(0,z1),(1,z4),(2,z4),(3,z4)],[]⟩,⟨[(0,z2),(1,z4),(2,z6)],[(100,zm)]⟩,4,3,fun x=>Iq k x.1 x.2.1 x.2.2.1 x.2.2.2⟩
theorem aaR(k:Nat):fM Tryz.prog 201 (aaQ k):=ok (cx [f85 k,f190 k] 50 nb) Tryz.f201 fun h x=>Q (Q (Q (Q (Q (X h) (Q (B (L aaS (fun n x=>Iq.l7 k n x.1.1 x.1.2.2.1 x.1.2.2.2.2.1 x.1.2.2.2.2.2 x.2) k fun n7=>X h)) (X h))) (X h)) (X h)) (X h)) (X h)
def f201(k:Nat):Fc Tryz.prog:=⟨201,_,aaR k⟩
def aaV:SS:=⟨[(0,z66),(6,z2),(13,z23),(14,z4),(15,z4)],[(100,zg)]⟩
def aaT(k:Nat):bZ:=⟨⟨[(0,z66),(1,z23)],[]⟩,⟨[(0,z2),(1,z6)],[(100,zg)]⟩,2,2,fun x=>Io k x.1 x.2⟩
theorem aaU(k:Nat):fM Tryz.prog 202 (aaT k):=ok (cx [f85 k] 34 nb) Tryz.f202 fun h x=>Q (Q (Q (Q (X h) (Q (B (L aaV (fun n x=>Io.l5 k n x.1.1 x.1.2.2.1 x.1.2.2.2.1 x.1.2.2.2.2 x.2) k fun n5=>X h)) (X h))) (X h)) (X h)) (X h)
def f202(k:Nat):Fc Tryz.prog:=⟨202,_,aaU k⟩
def Xc(k:Nat):bZ:=⟨⟨[(0,z4),(1,z4),(2,z1),(3,z4),(4,z66)],[]⟩,⟨[(0,z2),(1,z4),(2,z6)],[(100,zg)]⟩,5,3,fun x=>OY k x.1 x.2.1 x.2.2.1 x.2.2.2.1 x.2.2.2.2⟩
theorem Xd(k:Nat):fM Tryz.prog 123 (Xc k):=ok (cx [f130 k,f190 k,f195 k,f196 k,f197 k,f198 k,f199 k,f200 k,f201 k,f202 k] 122 nb) Tryz.f123 fun h x=>X h
def f123(k:Nat):Fc Tryz.prog:=⟨123,_,Xd k⟩
def ah4(k:Nat):bZ:=⟨⟨[(0,z4),(1,z4),(2,z1),(3,z4),(4,z66)],[]⟩,⟨[(0,z2),(1,z6)],[(100,zg)]⟩,5,2,fun x=>LH k x.1 x.2.1 x.2.2.1 x.2.2.2.1 x.2.2.2.2⟩
theorem ah5(k:Nat):fM Tryz.prog 63 (ah4 k):=ok (cx [f85 k,f122 k,f123 k,f124 k] 66 nb) Tryz.f63 fun h x=>X h
def f63(k:Nat):Fc Tryz.prog:=⟨63,_,ah5 k⟩
def Yk:SS:=⟨[(4,zT),(11,z36),(18,z38),(20,z66),(108,z4),(109,z4)],[(100,BL),(101,BP),(102,EO)]⟩
def Yj:SS:=⟨[(4,zT),(11,z36),(18,z38),(20,z66),(108,z4),(109,z4)],[(100,BL),(101,BP),(102,EO)]⟩
def Yh:SS:=⟨[(3,z66),(4,zT),(11,z36),(16,z1),(18,z38),(19,z4)],[(100,BL),(101,BP),(102,EO)]⟩
def Yg(k:Nat):bZ:=⟨⟨[(0,z60),(1,z1),(2,z4),(3,z66)],[]⟩,⟨[(0,z2),(1,z4),(2,z4)],[(100,EO)]⟩,4,3,fun x=>Dm k x.1 x.2.1 x.2.2.1 x.2.2.2⟩
theorem Yi(k:Nat):fM Tryz.prog 14 (Yg k):=ok (cx [f59 k,f60 k,f61 k,f62 k,f63 k] 136 nb) Tryz.f14 fun h x=>Q (Q (Q (Q (Q (Q (Q (Q (Q (Q (X h) (Q (B (L Yj (fun n x=>Dm.De k n x.1.2.2.2.1 x.1.2.2.2.2.1 x.1.2.2.2.2.2 x.2.1 x.2.2.1 x.2.2.2) k fun n16=>Q (Q (Q (T (X h) Yk fun x=>Dm.c21 k (Dm.De k n16) x.1.2.2.2.1 x.1.2.2.2.2.1 x.1.2.2.2.2.2 x.2.1 x.2.2.1 x.2.2.2) (X h)) (X h)) (X h))) (X h))) (X h)) (X h)) (Q (X h) (K h Yh (fun x=>Dm.d10 k x.1.1 x.1.2.2.2.1 x.1.2.2.2.2.2 x.2.1 x.2.2.1 x.2.2.2) [[0,1,2,3,4,6,5,7,8,9,10,11,12,13,14,15],[0,1,2,3,4,6,7,5,8,9,10,11,12,13,14,15]] (O (fun x=>by kernel_rfl) (O (fun x=>by kernel_rfl) (N)))))) (X h)) (X h)) (X h)) (X h)) (X h)) (X h)
def f14(k:Nat):Fc Tryz.prog:=⟨14,_,Yi k⟩
def XM(k:Nat):bZ:=⟨⟨[(0,z4),(1,z1),(2,z4)],[]⟩,⟨[(0,z2),(1,z4),(2,z4)],[(100,zg)]⟩,3,3,fun x=>OO k x.1 x.2.1 x.2.2⟩
theorem XN(k:Nat):fM Tryz.prog 134 (XM k):=ok (cx [f59 k,f195 k] 75 nb) Tryz.f134 fun h x=>X h
def f134(k:Nat):Fc Tryz.prog:=⟨134,_,XN k⟩
def aip:SS:=⟨[(1,z1),(3,zT),(5,z36),(9,z38),(13,z40),(14,z4),(15,z4)],[(100,BL),(101,Mv),(102,zg),(103,zm)]⟩
def aiq:SS:=⟨[(1,z1),(3,zT),(5,z36),(9,z38)],[(100,BL),(101,Mv),(102,zg)]⟩
def ain(k:Nat):bZ:=⟨⟨[(0,z60),(1,z1),(2,z25)],[]⟩,⟨[(0,z2),(1,Bq),(2,z4)],[(100,zm),(101,zg)]⟩,3,3,fun x=>E9 k x.1 x.2.1 x.2.2⟩
theorem aio(k:Nat):fM Tryz.prog 72 (ain k):=ok (cx [f118 k,f134 k] 90 nb) Tryz.f72 fun h x=>Q (Q (Q (Q (T (Q (Q (Q (X h) (B (L aip (fun n x=>E9.AL k n x.1.1 x.1.2.2.2.2.2.1 x.1.2.2.2.2.2.2 x.2.1 x.2.2.1 x.2.2.2.1 x.2.2.2.2) k fun n11=>X h))) (X h)) (X h)) aiq fun x=>E9.c9 k x.1.1 x.2.1 x.2.2.1 x.2.2.2) (X h)) (X h)) (X h)) (X h)
def f72(k:Nat):Fc Tryz.prog:=⟨72,_,aio k⟩
def aen:SS:=⟨[(1,z1),(3,zT),(9,Bq),(11,z38),(29,z40),(30,z4),(31,z4)],[(100,BL),(101,zg),(102,EO),(103,zm)]⟩
def ael(k:Nat):bZ:=⟨⟨[(0,z60),(1,z1),(2,z25)],[]⟩,⟨[(0,z2),(1,z4)],[(100,EO)]⟩,3,2,fun x=>Im k x.1 x.2.1 x.2.2⟩
theorem aem(k:Nat):fM Tryz.prog 27 (ael k):=ok (cx [f14 k,f72 k] 52 nb) Tryz.f27 fun h x=>Q (Q (Q (Q (Q (X h) (Q (B (L aen (fun n x=>Im.l6 k n x.1.1 x.1.2.2.2.2.2.1 x.1.2.2.2.2.2.2 x.2.1 x.2.2.1 x.2.2.2.1 x.2.2.2.2) k fun n6=>X h)) (X h))) (X h)) (X h)) (X h)) (X h)
def f27(k:Nat):Fc Tryz.prog:=⟨27,_,aem k⟩
def age(k:Nat):bZ:=⟨⟨[(0,z60),(1,(.ro Jt))],[]⟩,⟨[(0,z6)],[]⟩,2,1,fun x=>O3 k x.1 x.2⟩
theorem agf(k:Nat):fM Tryz.prog 316 (age k):=ok (cx [f85 k,f203 k] 33 nb) Tryz.f316 fun h x=>X h
def f316(k:Nat):Fc Tryz.prog:=⟨316,_,agf k⟩
def aeH:SS:=⟨[(1,z78),(2,zT),(7,z78),(8,z4),(9,z4)],[(100,BL)]⟩
def aeF(k:Nat):bZ:=⟨⟨[(0,z60),(1,z78)],[]⟩,⟨[(0,z6)],[]⟩,2,1,fun x=>IC k x.1 x.2⟩
theorem aeG(k:Nat):fM Tryz.prog 286 (aeF k):=ok (cx [f316 k] 21 nb) Tryz.f286 fun h x=>Q (Q (X h) (Q (B (L aeH (fun n x=>IC.l2 k n x.1.1 x.1.2.2.1 x.1.2.2.2.1 x.1.2.2.2.2 x.2) k fun n2=>X h)) (X h))) (X h)
def f286(k:Nat):Fc Tryz.prog:=⟨286,_,aeG k⟩
def abI(k:Nat):bZ:=⟨⟨[(0,z_),(1,z4),(2,z78)],[]⟩,⟨[(0,z6)],[]⟩,3,1,fun x=>OV k x.1 x.2.1 x.2.2⟩
theorem abJ(k:Nat):fM Tryz.prog 220 (abI k):=ok (cx [f71 k,f286 k] 33 nb) Tryz.f220 fun h x=>X h
def f220(k:Nat):Fc Tryz.prog:=⟨220,_,abJ k⟩
def abM:SS:=⟨[(4,z4),(12,z80),(13,z4),(14,z4)],[]⟩
def abK(k:Nat):bZ:=⟨⟨[(0,z80)],[]⟩,⟨[(0,z4),(1,z6)],[]⟩,1,2,fun x=>Iz k x⟩
theorem abL(k:Nat):fM Tryz.prog 221 (abK k):=ok (cx [f62 k] 27 nb) Tryz.f221 fun h x=>Q (Q (Q (X h) (Q (B (L abM (fun n x=>Iz.l3 k n x.1 x.2.1 x.2.2.1 x.2.2.2) k fun n3=>X h)) (X h))) (X h)) (X h)
def f221(k:Nat):Fc Tryz.prog:=⟨221,_,abL k⟩
def abP:SS:=⟨[(3,z2),(10,Bq),(11,z4),(12,z4)],[(100,zm),(101,zm)]⟩
def abN(k:Nat):bZ:=⟨⟨[(0,z_)],[]⟩,⟨[(0,z2)],[(100,zm)]⟩,1,1,fun x=>GK k x⟩
theorem abO(k:Nat):fM Tryz.prog 222 (abN k):=ok (cx [f142 k] 23 nb) Tryz.f222 fun h x=>Q (Q (Q (X h) (Q (B (L abP (fun n x=>GK.l3 k n x.1.2.2.1 x.1.2.2.2 x.2.1 x.2.2) k fun n3=>X h)) (X h))) (X h)) (X h)
def f222(k:Nat):Fc Tryz.prog:=⟨222,_,abO k⟩
def agj:SS:=⟨[(0,z83),(1,z4),(4,zT)],[(0,G5),(10,zm),(11,zg),(100,(.box Jt z77))]⟩
def agh(k:Nat):bZ:=⟨⟨[(0,z83),(1,z4)],[(0,G5),(10,zm),(11,zg)]⟩,⟨[(0,z77),(1,z6)],[(0,G5),(10,zm),(11,zg)]⟩,2,2,fun x=>Iy k x.1.2 x.2.1 x.2.2.1 x.2.2.2⟩
theorem agi(k:Nat):fM Tryz.prog 317 (agh k):=ok (cx [] 60 nb) Tryz.f317 fun h x=>Q (Q (X h) (B (L agj (fun n x=>Iy.l1 k n x.1.2.1 x.2.1 x.2.2.1 x.2.2.2.1 x.2.2.2.2) k fun n1=>X h))) (X h)
def f317(k:Nat):Fc Tryz.prog:=⟨317,_,agi k⟩
def aeI(k:Nat):bZ:=⟨⟨[(0,z83),(1,z4),(2,z4),(3,z4)],[(0,G5),(10,zm),(11,zg)]⟩,⟨[(0,z62)],[(0,G5),(10,zm),(11,zg)]⟩,4,1,fun x=>Nc k x.1.2.1 x.1.2.2.1 x.1.2.2.2 x.2.1 x.2.2.1 x.2.2.2⟩
theorem aeJ(k:Nat):fM Tryz.prog 287 (aeI k):=ok (cx [f317 k] 58 nb) Tryz.f287 fun h x=>X h
def f287(k:Nat):Fc Tryz.prog:=⟨287,_,aeJ k⟩
def agn:SS:=⟨[(0,z83),(2,z4),(3,z4),(9,z4),(10,z4)],[(0,G5),(10,zm),(11,zg)]⟩
def agm:SS:=⟨[(0,z83),(2,z4),(3,z4),(9,z4),(10,z4)],[(0,G5),(10,zm),(11,zg)]⟩
def agk(k:Nat):bZ:=⟨⟨[(0,z83),(1,z4),(2,z4),(3,z4)],[(0,G5),(10,zm),(11,zg)]⟩,⟨[(0,z4)],[(0,G5),(10,zm),(11,zg)]⟩,4,1,fun x=>DN k x.1.2.1 x.1.2.2.1 x.1.2.2.2 x.2.1 x.2.2.1 x.2.2.2⟩
theorem agl(k:Nat):fM Tryz.prog 318 (agk k):=ok (cx [f212 k,f287 k] 38 nb) Tryz.f318 fun h x=>Q (Q (Q (X h) (Q (B (L agm (fun n x=>DN.l3 k n x.1.2.1 x.1.2.2.1 x.1.2.2.2.1 x.1.2.2.2.2 x.2.1 x.2.2.1 x.2.2.2) k fun n3=>Q (Q (T (X h) agn fun x=>DN.c4 k (DN.l3 k n3) x.1.2.1 x.1.2.2.1 x.1.2.2.2.1 x.1.2.2.2.2 x.2.1 x.2.2.1 x.2.2.2) (X h)) (X h))) (X h))) (X h)) (X h)
def f318(k:Nat):Fc Tryz.prog:=⟨318,_,agl k⟩
def abS:SS:=⟨[(12,z4)],[(0,K8),(10,zm),(100,zg)]⟩
def abT:SS:=⟨[(0,z83),(2,z4),(3,z4),(4,z4),(12,z4),(48,z4),(49,z4)],[(0,K8),(10,zm),(100,zg)]⟩
def Ll(F:Int→Int→Int→Int→zG→(List Int)→(List za)→Option (Int×zG×(List Int)×(List za))):bZ:=⟨⟨[(0,z83),(1,z4),(2,z4),(3,z4),(4,z4)],[(0,G5),(10,zm),(11,zg)]⟩,⟨[(0,z4)],[(0,K8),(10,zm),(100,zg)]⟩,5,1,fun x=>F x.1.2.1 x.1.2.2.1 x.1.2.2.2.1 x.1.2.2.2.2 x.2.1 x.2.2.1 x.2.2.2⟩
def aeM:SS:=⟨[(0,z83),(1,z4),(13,z4),(14,z4)],[(0,K8),(10,zm),(100,zg)]⟩
def aeN:SS:=⟨[(0,z83),(1,z4),(2,z4),(3,z4),(4,z4),(11,zT)],[(0,G5),(10,zm),(11,zg),(100,(.box Jt z77))]⟩
def Lp(F:Int→Int→Int→Int→zG→(List Int)→(List za)→Option (Int×zG×(List Int)×(List za))):bZ:=⟨⟨[(0,z83),(1,z4),(2,z4),(3,z4),(4,z4)],[(0,G5),(10,zm),(11,zg)]⟩,⟨[(0,z4)],[(0,K8),(10,zm),(100,zg)]⟩,5,1,fun x=>F x.1.2.1 x.1.2.2.1 x.1.2.2.2.1 x.1.2.2.2.2 x.2.1 x.2.2.1 x.2.2.2⟩
def agq:SS:=⟨[(0,z83),(1,z4),(3,z4),(4,z4),(11,z4)],[(0,K8),(10,zm),(100,zg)]⟩
def Lu(F:Int→Int→Int→Int→zG→(List Int)→(List za)→Option (Int×zG×(List Int)×(List za))):bZ:=⟨⟨[(0,z83),(1,z4),(2,z4),(3,z4),(4,z4)],[(0,G5),(10,zm),(11,zg)]⟩,⟨[(0,z4)],[(0,K8),(10,zm),(100,zg)]⟩,5,1,fun x=>F x.1.2.1 x.1.2.2.1 x.1.2.2.2.1 x.1.2.2.2.2 x.2.1 x.2.2.1 x.2.2.2⟩
theorem abR(k:Nat)(DF:Int→Int→Int→Int→zG→(List Int)→(List za)→Option (Int×zG×(List Int)×(List za)))(Fu:Int→Int→Int→Int→zG→(List Int)→(List za)→Option (Int×zG×(List Int)×(List za)))(Fx:Int→Int→Int→Int→zG→(List Int)→(List za)→Option (Int×zG×(List Int)×(List za)))(OB:fM Tryz.prog 223 (Ll DF))(Qh:fM Tryz.prog 288 (Lp Fu))(Qk:fM Tryz.prog 319 (Lu Fx)):fM Tryz.prog 223 (Ll (zW.b k DF Fu Fx)):=ok (cx [f287 k,⟨288,_,Qh⟩] 63 nb) Tryz.f223 fun h x=>Q (Q (Q (Q (T (X h) abS fun x=>zW.c11 k x.1 x.2.1 x.2.2.1 x.2.2.2) (Q (B (L abT (fun n x=>zW.l7 k Fu n x.1.2.1 x.1.2.2.1 x.1.2.2.2.1 x.1.2.2.2.2.1 x.1.2.2.2.2.2.1 x.1.2.2.2.2.2.2 x.2.1 x.2.2.1 x.2.2.2) k fun n7=>X h)) (X h))) (X h)) (X h)) (X h)
theorem aeL(k:Nat)(DF:Int→Int→Int→Int→zG→(List Int)→(List za)→Option (Int×zG×(List Int)×(List za)))(Fu:Int→Int→Int→Int→zG→(List Int)→(List za)→Option (Int×zG×(List Int)×(List za)))(Fx:Int→Int→Int→Int→zG→(List Int)→(List za)→Option (Int×zG×(List Int)×(List za)))(OB:fM Tryz.prog 223 (Ll DF))(Qh:fM Tryz.prog 288 (Lp Fu))(Qk:fM Tryz.prog 319 (Lu Fx)):fM Tryz.prog 288 (Lp (CW.b k DF Fu Fx)):=ok (cx [f212 k,⟨223,_,OB⟩,f317 k,f318 k,⟨319,_,Qk⟩] 117 nb) Tryz.f288 fun h x=>Q (Q (Q (Q (T (Q (Q (Q (Q (Q (T (X h) aeM fun x=>CW.c15 k x.1.2.1 x.1.2.2.1 x.1.2.2.2 x.2.1 x.2.2.1 x.2.2.2) (X h)) (X h)) (X h)) (X h)) (X h)) aeN fun x=>CW.c6 k DF Fx x.1.2.1 x.1.2.2.1 x.1.2.2.2.1 x.1.2.2.2.2.1 x.2.1 x.2.2.1 x.2.2.2.1 x.2.2.2.2) (X h)) (X h)) (X h)) (X h)
theorem agp(k:Nat)(DF:Int→Int→Int→Int→zG→(List Int)→(List za)→Option (Int×zG×(List Int)×(List za)))(Fu:Int→Int→Int→Int→zG→(List Int)→(List za)→Option (Int×zG×(List Int)×(List za)))(Fx:Int→Int→Int→Int→zG→(List Int)→(List za)→Option (Int×zG×(List Int)×(List za)))(OB:fM Tryz.prog 223 (Ll DF))(Qh:fM Tryz.prog 288 (Lp Fu))(Qk:fM Tryz.prog 319 (Lu Fx)):fM Tryz.prog 319 (Lu (Dc.b k DF Fu Fx)):=ok (cx [⟨223,_,OB⟩,f317 k] 49 nb) Tryz.f319 fun h x=>Q (Q (Q (B (L agq (fun n x=>Dc.l4 k DF n x.1.2.1 x.1.2.2.1 x.1.2.2.2.1 x.1.2.2.2.2 x.2.1 x.2.2.1 x.2.2.2) k fun n4=>X h)) (X h)) (X h)) (X h)
theorem Ou(k:Nat):∀d,fM Tryz.prog 223 (Ll (zW.d k d))∧fM Tryz.prog 288 (Lp (CW.d k d))∧fM Tryz.prog 319 (Lu (Dc.d k d))
 |0=>⟨yL (fun _=>rfl),yL (fun _=>rfl),yL (fun _=>rfl)⟩
 |d+1=>let ih:=Ou k d
  ⟨abR k (zW.d k d) (CW.d k d) (Dc.d k d) ih.1 ih.2.1 ih.2.2,aeL k (zW.d k d) (CW.d k d) (Dc.d k d) ih.1 ih.2.1 ih.2.2,agp k (zW.d k d) (CW.d k d) (Dc.d k d) ih.1 ih.2.1 ih.2.2⟩
theorem abQ(k:Nat):fM Tryz.prog 223 (Ll (zW k)):=(Ou k k).1
def f223(k:Nat):Fc Tryz.prog:=⟨223,_,abQ k⟩
theorem aeK(k:Nat):fM Tryz.prog 288 (Lp (CW k)):=(Ou k k).2.1
def f288(k:Nat):Fc Tryz.prog:=⟨288,_,aeK k⟩
theorem ago(k:Nat):fM Tryz.prog 319 (Lu (Dc k)):=(Ou k k).2.2
def f319(k:Nat):Fc Tryz.prog:=⟨319,_,ago k⟩
def abW:SS:=⟨[(0,z83),(8,z80),(9,z4),(10,z4)],[(0,Q9),(10,zm)]⟩
def abU(k:Nat):bZ:=⟨⟨[(0,z83)],[(0,Q9),(10,zm)]⟩,⟨[(0,z6)],[(0,Q9),(10,zm)]⟩,1,1,fun x=>Hg k x.2.1 x.2.2⟩
theorem abV(k:Nat):fM Tryz.prog 224 (abU k):=ok (cx [] 27 nb) Tryz.f224 fun h x=>Q (Q (X h) (Q (B (L abW (fun n x=>Hg.l2 k n x.1.2.1 x.1.2.2.1 x.1.2.2.2 x.2.1 x.2.2) k fun n2=>X h)) (X h))) (X h)
def f224(k:Nat):Fc Tryz.prog:=⟨224,_,abV k⟩
def Ye:SS:=⟨[(8,z4),(10,zT),(11,Bq),(12,z4)],[(100,(.box ME (.agg (.cons z_ (.cons z80 (.cons z23 (.cons z38 (.cons .any (.cons z6 v93))))))))),(101,ER),(102,zm)]⟩
def Yc:SS:=⟨[(0,z_),(1,z80),(8,z4)],[]⟩
def Yf:SS:=⟨[(0,z_),(1,z80),(24,z80),(25,z4),(26,z4)],[]⟩
def Yb(k:Nat):bZ:=⟨⟨[(0,z_),(1,z80)],[]⟩,⟨[(0,z2),(1,z4)],[(100,ER)]⟩,2,2,fun x=>Cr k x.1 x.2⟩
theorem Yd(k:Nat):fM Tryz.prog 149 (Yb k):=ok (cx [f141 k,f142 k,f220 k,f221 k,f222 k,f223 k,f224 k] 111 (fun s=>Nat.beq s 100)) Tryz.f149 fun h x=>Q (Q (Q (Q (Q (Q (Q (Q (X h) (Q (B (L Ye (fun n x=>Cr.BX k n x.1.1 x.1.2.2.2 x.2.1 x.2.2.1 x.2.2.2) k fun n15=>X h)) (X h))) (X h)) (K h Yc (fun x=>Cr.d12 k x.1 x.2.1 x.2.2) [[0,1,2,4,5,3,6,7,8,9],[0,1,2,4,5,6,3,7,8,9]] (O (fun x=>by kernel_rfl) (O (fun x=>Eq.trans (b:=cond (oV (List.length x.2.1:Int)) ((GK k x.1).bind fun r7=>Cr.BX k k x.2.2 0 (x.1,x.2.1,r7.2,(),(),false,false,()) [] (List.replicate (Int.toNat (List.length x.2.1:Int)) 0)) none) (by kernel_rfl) (by show _=Cr.d12 k x.1 x.2.1 x.2.2;unfold Cr.d12;cases(GK k x.1)<;>cases((oV (List.length x.2.1:Int)))<;>rfl)) (N))))) (X h)) (X h)) (Q (B (L Yf (fun n x=>Cr.l4 k n x.1 x.2.1 x.2.2.1 x.2.2.2.1 x.2.2.2.2) k fun n4=>X h)) (X h))) (X h)) (X h)
def f149(k:Nat):Fc Tryz.prog:=⟨149,_,Yd k⟩
def aiK:SS:=⟨[(0,z1),(2,z4),(4,zT),(9,Bq),(10,z4),(28,z31),(29,z4),(30,z4)],[(100,Ku),(101,(.sl 210 La))]⟩
def aiI(k:Nat):bZ:=⟨⟨[(0,z1),(1,(.ro y28)),(2,z4)],[]⟩,⟨[(0,z2),(1,z4),(2,z4)],[(100,ER)]⟩,3,3,fun x=>Iu k x.1 x.2.1 x.2.2⟩
theorem aiJ(k:Nat):fM Tryz.prog 94 (aiI k):=ok (cx [f27 k,f71 k,f72 k,f149 k] 91 nb) Tryz.f94 fun h x=>Q (Q (Q (Q (X h) (Q (B (L aiK (fun n x=>Iu.l4 k n x.1.1 x.1.2.1 x.1.2.2.2.2.1 x.1.2.2.2.2.2.1 x.1.2.2.2.2.2.2.1 x.1.2.2.2.2.2.2.2 x.2.1 x.2.2) k fun n4=>X h)) (X h))) (X h)) (X h)) (X h)
def f94(k:Nat):Fc Tryz.prog:=⟨94,_,aiJ k⟩
def ahk:SS:=⟨[(0,z1),(5,zT),(7,Bq),(23,z4),(24,z4)],[(100,(.box y28 (.agg (.cons z38 v41)))),(101,ER),(102,BK),(103,FU)]⟩
def ahi(k:Nat):bZ:=⟨⟨[(0,z1)],[]⟩,⟨[(0,z2),(1,Bq),(2,z4)],[(100,BK),(101,ER)]⟩,1,3,fun x=>He k x⟩
theorem ahj(k:Nat):fM Tryz.prog 40 (ahi k):=ok (cx [f70 k,f94 k] 45 nb) Tryz.f40 fun h x=>Q (Q (Q (Q (Q (X h) (Q (B (L ahk (fun n x=>He.l6 k n x.1.1 x.1.2.2.2.1 x.1.2.2.2.2 x.2.1 x.2.2.1 x.2.2.2.1 x.2.2.2.2) k fun n6=>X h)) (X h))) (X h)) (X h)) (X h)) (X h)
def f40(k:Nat):Fc Tryz.prog:=⟨40,_,ahj k⟩
def aiL(k:Nat):bZ:=⟨⟨[(0,(.ro Dy)),(1,(.ro Dy))],[]⟩,⟨[(0,z6)],[]⟩,2,1,fun x=>L9 k x.1 x.2⟩
theorem aiM(k:Nat):fM Tryz.prog 95 (aiL k):=ok (cx [] 25 nb) Tryz.f95 fun h x=>X h
def f95(k:Nat):Fc Tryz.prog:=⟨95,_,aiM k⟩
def ahn:SS:=⟨[(0,z_),(1,z_),(5,z4)],[]⟩
def ahl(k:Nat):bZ:=⟨⟨[(0,z_),(1,z_)],[]⟩,⟨[(0,z6)],[]⟩,2,1,fun x=>GN k x.1 x.2⟩
theorem ahm(k:Nat):fM Tryz.prog 41 (ahl k):=ok (cx [f95 k] 27 nb) Tryz.f41 fun h x=>Q (Q (Q (X h) (Q (B (L ahn (fun n x=>GN.l4 k n x.1 x.2.1 x.2.2) k fun n4=>X h)) (X h))) (X h)) (X h)
def f41(k:Nat):Fc Tryz.prog:=⟨41,_,ahm k⟩
def ah6(k:Nat):bZ:=⟨⟨[(0,z65),(1,z65)],[]⟩,⟨[(0,z6)],[]⟩,2,1,fun x=>Ma k x.1 x.2⟩
theorem ah7(k:Nat):fM Tryz.prog 65 (ah6 k):=ok (cx [] 15 nb) Tryz.f65 fun h x=>X h
def f65(k:Nat):Fc Tryz.prog:=⟨65,_,ah7 k⟩
def ZB:SS:=⟨[(0,z66),(1,z66),(5,z4)],[]⟩
def Zz(k:Nat):bZ:=⟨⟨[(0,z66),(1,z66)],[]⟩,⟨[(0,z6)],[]⟩,2,1,fun x=>IG k x.1 x.2⟩
theorem ZA(k:Nat):fM Tryz.prog 17 (Zz k):=ok (cx [f65 k] 27 nb) Tryz.f17 fun h x=>Q (Q (Q (X h) (Q (B (L ZB (fun n x=>IG.l4 k n x.1 x.2.1 x.2.2) k fun n4=>X h)) (X h))) (X h)) (X h)
def f17(k:Nat):Fc Tryz.prog:=⟨17,_,ZA k⟩
def aiN(k:Nat):bZ:=⟨⟨[(0,(.ro Ky)),(1,(.ro Ky))],[]⟩,⟨[(0,z6)],[]⟩,2,1,fun x=>L_ k x.1 x.2⟩
theorem aiO(k:Nat):fM Tryz.prog 96 (aiN k):=ok (cx [f17 k] 11 nb) Tryz.f96 fun h x=>X h
def f96(k:Nat):Fc Tryz.prog:=⟨96,_,aiO k⟩
def ahq:SS:=⟨[(0,MH),(1,MH),(5,z4)],[]⟩
def aho(k:Nat):bZ:=⟨⟨[(0,MH),(1,MH)],[]⟩,⟨[(0,z6)],[]⟩,2,1,fun x=>GQ k x.1 x.2⟩
theorem ahp(k:Nat):fM Tryz.prog 42 (aho k):=ok (cx [f96 k] 27 nb) Tryz.f42 fun h x=>Q (Q (Q (X h) (Q (B (L ahq (fun n x=>GQ.l4 k n x.1 x.2.1 x.2.2) k fun n4=>X h)) (X h))) (X h)) (X h)
def f42(k:Nat):Fc Tryz.prog:=⟨42,_,ahp k⟩
def ah_:SS:=⟨[(0,z4),(3,z8)],[]⟩
def ah8(k:Nat):bZ:=⟨⟨[(0,z4)],[]⟩,⟨[(0,z8)],[]⟩,1,1,fun x=>Fe k x⟩
theorem ah9(k:Nat):fM Tryz.prog 66 (ah8 k):=ok (cx [] 20 nb) Tryz.f66 fun h x=>Q (Q (Q (Q (X h) (B (L ah_ (fun n x=>Fe.l4 k n x.1 x.2) k fun n4=>X h))) (X h)) (X h)) (X h)
def f66(k:Nat):Fc Tryz.prog:=⟨66,_,ah9 k⟩
def aht:SS:=⟨[(0,z7),(1,z4),(5,z4)],[(10,BK)]⟩
def ahr(k:Nat):bZ:=⟨⟨[(0,z7),(1,z4)],[(10,BK)]⟩,⟨[(0,z4)],[(10,BK)]⟩,2,1,fun x=>IJ k x.1.2 x.2⟩
theorem ahs(k:Nat):fM Tryz.prog 43 (ahr k):=ok (cx [f66 k] 42 nb) Tryz.f43 fun h x=>Q (Q (X h) (Q (B (L aht (fun n x=>IJ.l2 k n x.1.2.1 x.1.2.2 x.2) k fun n2=>X h)) (X h))) (X h)
def f43(k:Nat):Fc Tryz.prog:=⟨43,_,ahs k⟩
def aaL:SS:=⟨[(0,z7),(1,z4),(5,z4)],[(10,zg)]⟩
def aaJ(k:Nat):bZ:=⟨⟨[(0,z7),(1,z4)],[(10,zg)]⟩,⟨[(0,z4)],[(10,zg)]⟩,2,1,fun x=>IL k x.1.2 x.2⟩
theorem aaK(k:Nat):fM Tryz.prog 19 (aaJ k):=ok (cx [f66 k] 28 nb) Tryz.f19 fun h x=>Q (Q (X h) (Q (B (L aaL (fun n x=>IL.l2 k n x.1.2.1 x.1.2.2 x.2) k fun n2=>X h)) (X h))) (X h)
def f19(k:Nat):Fc Tryz.prog:=⟨19,_,aaK k⟩
def ahw:SS:=⟨[(0,z7),(1,z4),(5,z4)],[(10,ER)]⟩
def ahu(k:Nat):bZ:=⟨⟨[(0,z7),(1,z4)],[(10,ER)]⟩,⟨[(0,z4)],[(10,ER)]⟩,2,1,fun x=>IK k x.1.2 x.2⟩
theorem ahv(k:Nat):fM Tryz.prog 44 (ahu k):=ok (cx [f19 k] 20 nb) Tryz.f44 fun h x=>Q (Q (X h) (Q (B (L ahw (fun n x=>IK.l2 k n x.1.2.1 x.1.2.2 x.2) k fun n2=>X h)) (X h))) (X h)
def f44(k:Nat):Fc Tryz.prog:=⟨44,_,ahv k⟩
def ahy:SS:=⟨[(0,z_),(1,z4),(5,z4)],[]⟩
def ahA:SS:=⟨[(0,z_),(1,z4),(5,z4)],[]⟩
def ahx(k:Nat):bZ:=⟨⟨[(0,z_),(1,z4)],[]⟩,⟨[(0,z4)],[]⟩,2,1,fun x=>Fb k x.1 x.2⟩
theorem ahz(k:Nat):fM Tryz.prog 45 (ahx k):=ok (cx [f66 k] 50 nb) Tryz.f45 fun h x=>Q (Q (X h) (Q (B (L ahA (fun n x=>Fb.l2 k n x.1 x.2.1 x.2.2) k fun n2=>Q (Q (X h) (B (Q (X h) (Q (X h) (K h ahy (fun x=>Fb.d4 k (Fb.l2 k n2) x.1 x.2.1 x.2.2) [[0,1,2,3,5,4,6,7],[0,1,2,3,5,6,4,7]] (O (fun x=>by kernel_rfl) (O (fun x=>by kernel_rfl) (N)))))))) (X h))) (X h))) (X h)
def f45(k:Nat):Fc Tryz.prog:=⟨45,_,ahz k⟩
def aiQ:SS:=⟨[(0,z66),(1,z4),(5,z4)],[]⟩
def aiS:SS:=⟨[(0,z66),(1,z4),(5,z4)],[]⟩
def aiP(k:Nat):bZ:=⟨⟨[(0,z66),(1,z4)],[]⟩,⟨[(0,z4)],[]⟩,2,1,fun x=>FF k x.1 x.2⟩
theorem aiR(k:Nat):fM Tryz.prog 97 (aiP k):=ok (cx [f66 k] 32 nb) Tryz.f97 fun h x=>Q (Q (X h) (Q (B (L aiS (fun n x=>FF.l2 k n x.1 x.2.1 x.2.2) k fun n2=>Q (Q (X h) (B (Q (Q (Q (X h) (Q (X h) (K h aiQ (fun x=>FF.d7 k (FF.l2 k n2) x.1 x.2.1 x.2.2) [[0,1,2,3,5,4,6,7],[0,1,2,3,5,6,4,7]] (O (fun x=>by kernel_rfl) (O (fun x=>by kernel_rfl) (N)))))) (X h)) (X h)))) (X h))) (X h))) (X h)
def f97(k:Nat):Fc Tryz.prog:=⟨97,_,aiR k⟩
def ahD:SS:=⟨[(0,MH),(1,z4),(5,z4)],[]⟩
def ahB(k:Nat):bZ:=⟨⟨[(0,MH),(1,z4)],[]⟩,⟨[(0,z4)],[]⟩,2,1,fun x=>Hu k x.1 x.2⟩
theorem ahC(k:Nat):fM Tryz.prog 46 (ahB k):=ok (cx [f97 k] 22 nb) Tryz.f46 fun h x=>Q (Q (X h) (Q (B (L ahD (fun n x=>Hu.l2 k n x.1 x.2.1 x.2.2) k fun n2=>X h)) (X h))) (X h)
def f46(k:Nat):Fc Tryz.prog:=⟨46,_,ahC k⟩
def Si(k:Nat):bZ:=⟨⟨[(0,z1)],[]⟩,⟨[(0,z6)],[]⟩,1,1,fun x=>Qz k x⟩
theorem Sj(k:Nat):fM Tryz.prog 7 (Si k):=ok (cx [f12 k,f16 k,f18 k,f39 k,f40 k,f41 k,f42 k,f43 k,f44 k,f45 k,f46 k] 130 nb) Tryz.f7 fun h x=>X h
def f7(k:Nat):Fc Tryz.prog:=⟨7,_,Sj k⟩
end Go.Proofs.YtohaijhiclmkkaaGreat
