/- Our own texts LW6 LW7 LW8 LW9 LW10 LW11 LW12 LW13 C1 C2 C3 LS of this seat in one. -/
import Derived.Test.YthoengcicaicoaaGreatDoorY3
import Derived.Deep.Slices
import Derived.ChangeArms
import Derived.ProofKit
import Derived.Below
import Derived.ChangeSame
import Derived.Test.YthoengcicaicoaaGreatDoorCards
import Derived.Test.YthoengcicaicoaaGreatDoorTie
import Derived.Lay
import Derived.LaidSub
import Derived.LaidLaws
import Derived.Lib.LaidTab
import Derived.Handy
import Derived.HandedShaped
import Derived.Shelf.Vars
set_option linter.unusedSimpArgs false
set_option linter.unusedVariables false
set_option linter.unusedSectionVars false
set_option maxRecDepth 100000
set_option maxHeartbeats 1000000
namespace Go.Proofs.YthoengcicaicoaaGreatDoor
open Go.RowKit Go.Abs Go.Proofs.Tryz
theorem c_f_tagged_size {v0b:List UInt8} {r:Int×Int} (H:f_tagged_size v0b=some r):ACall prog 77 [slOf 1 rB8 v0b] (·=.tup [cI r.1,cI r.2]):=by
 refine ACall.enter' func77 rfl ntmps77 rfl fun S hS=>?_
 unfold f_tagged_size at H
 refine .A 12 [.i (v0b.length:Int)] rfl (s22.n rfl rfl) ?_
 refine .ite H rfl (fun H=>?_) (fun H=>?_)
 ·refine .A 5 [] rfl trivial ?_
  refine .R func77 results77 rfl ?_
  cases H
  exact .m rfl (.tupD rfl)
 ·obtain ⟨hk1,H⟩:=ck_some H
  obtain ⟨hk2,H⟩:=ck_some H
  obtain ⟨hk3,H⟩:=ck_some H
  obtain ⟨hk4,H⟩:=ck_some H
  obtain ⟨hk5,H⟩:=ck_some H
  refine .A 25 [.p 12,.d (.ro (rB8 (nth v0b (Int.toNat (0))))),.i ((nth v0b (Int.toNat (0))).toNat:Int),.i (((nth v0b (Int.toNat (0))).toNat:Int)*2 ^ (Int.toNat (8))),.i (2+(((nth v0b (Int.toNat (0))).toNat:Int)*2 ^ (Int.toNat (8)))),.d (.ro (rB8 (nth v0b (Int.toNat (1))))),.i ((nth v0b (Int.toNat (1))).toNat:Int),.i ((2+(((nth v0b (Int.toNat (0))).toNat:Int)*2 ^ (Int.toNat (8))))+((nth v0b (Int.toNat (1))).toNat:Int)),.i (v0b.length:Int)] rfl ⟨s22.n rfl rfl,g_addI rfl rfl hk5,OpQ.g (q_conv8i (a:=nth v0b (Int.toNat (1))) underlying5 underlying3 rfl),s22.ix rfl rfl rfl hk4,g_addI rfl rfl hk3,OpQ.g (q_shlI rfl rfl hk2),OpQ.g (q_conv8i (a:=nth v0b (Int.toNat (0))) underlying5 underlying3 rfl),s22.ix rfl rfl rfl hk1,(show drawB _ _=true by kernel_rfl)⟩ ?_
  refine .ite H rfl (fun H=>?_) (fun H=>?_)
  ·refine .A 5 [] rfl trivial ?_
   refine .R func77 results77 rfl ?_
   cases H
   exact .m rfl (.tupD rfl)
  ·refine .A 7 [] rfl trivial ?_
   refine .R func77 results77 rfl ?_
   cases H
   exact .m rfl (.tupD rfl)
theorem c_f_tagged_Elements {v0b:List UInt8} {r:(List Element)×Int} (H:f_tagged_Elements v0b=some r):ACall prog 111 [slOf 1 rB8 v0b] (·=.tup [slOf 2 Element.row r.1,cI r.2]):=by
 obtain ⟨i5,hi5,hz5,hs5,hb5⟩:=in_5
 obtain ⟨i104,hi104,hz104,hs104,hb104⟩:=in_104
 refine ACall.enter' func111 rfl ntmps111 rfl fun S hS=>?_
 unfold f_tagged_Elements at H
 refine .A 15 [] rfl trivial ?_
 refine .tok (i:=4) (e:=104) (sz:=2) rfl ?_
 obtain ⟨n1,H⟩:=loop_some H
 refine .loop (ι:=Nat×(List UInt8×List Element×Int)) (fun ⟨_,v0bl1,v4outl1,v5lastl1⟩=>[(0,.d (slOf 1 rB8 v0bl1)),(4,.tsl 2 (v4outl1.map Element.row) 0),(5,.d (cI v5lastl1))]) (fun ⟨_,v0bl1,v4outl1,v5lastl1⟩=>⟨[],[⟨104,2,v4outl1.length,none⟩]⟩) (fun p=>iter (fun s=>f_tagged_Elements_l1 s.1 s.2.1 s.2.2) p.1 p.2=some r) (·.1) (n1,(v0b,([]:List Element),0)) H (.cons rfl (.rfl' _) (.cons rfl (.rfl' _) (.cons rfl (.rfl' _) (.nil)))) rfl ?_
 rintro ⟨m1,v0bl1,v4outl1,v5lastl1⟩ HI ih1
 obtain ⟨n1,q1,hm1,H,HK1⟩:=iter_succ HI
 clear HI
 replace H:f_tagged_Elements_l1 v0bl1 v4outl1 v5lastl1=some q1:=H
 unfold f_tagged_Elements_l1 at H
 refine .A 7 [.i (v0bl1.length:Int)] rfl (s22.n rfl rfl) ?_
 refine .ite H rfl (fun H=>?_) (fun H=>?_)
 ·obtain ⟨hk1,H⟩:=ck_some H
  refine .A 18 [.d (.ro (rB8 (nth v0bl1 (Int.toNat (0))))),.i ((nth v0bl1 (Int.toNat (0))).toNat:Int)] rfl ⟨OpQ.g (q_conv8i (a:=nth v0bl1 (Int.toNat (0))) underlying5 underlying3 rfl),s22.ix rfl rfl rfl hk1⟩ ?_
  refine .ite H rfl (fun H=>?_) (fun H=>?_)
  ·refine .A 5 [] rfl trivial ?_
   refine .R func111 results111 rfl ?_
   cases H
   cases HK1
   exact .m rfl (.tupL ⟨.nil 2,.rfl' _,trivial⟩)
  ·refine .A 7 [] rfl trivial ?_
   refine .ite H rfl (fun H=>?_) (fun H=>?_)
   ·refine .A 5 [] rfl trivial ?_
    refine .R func111 results111 rfl ?_
    cases H
    cases HK1
    exact .m rfl (.tupL ⟨.nil 2,.rfl' _,trivial⟩)
   ·obtain ⟨hk2,H⟩:=ck_some H
    obtain ⟨hk3,H⟩:=ck_some H
    refine .A 17 [.i (v0bl1.length:Int),.i (v0bl1.length:Int),.i ((v0bl1.length:Int) - 2),.d (.ro (rB8 (nth v0bl1 (Int.toNat (1))))),.i ((nth v0bl1 (Int.toNat (1))).toNat:Int)] rfl ⟨rfl,rfl,rfl,fun hg=>OpQ.g (q_conv8i (a:=nth v0bl1 (Int.toNat (1))) underlying5 underlying3 rfl),rfl,rfl,fun hg=>s22.ix rfl rfl rfl (hk3 hg),rfl,fun hg=>g_subI rfl rfl (hk2 hg),rfl,fun hg=>s22.n rfl rfl,rfl,s22.n rfl rfl⟩ ?_
    refine .ite H rfl (fun H=>?_) (fun H=>?_)
    ·refine .A 5 [] rfl trivial ?_
     refine .R func111 results111 rfl ?_
     cases H
     cases HK1
     exact .m rfl (.tupL ⟨.nil 2,.rfl' _,trivial⟩)
    ·obtain ⟨hk4,H⟩:=ck_some H
     obtain ⟨hk5,H⟩:=ck_some H
     obtain ⟨hk6,H⟩:=ck_some H
     obtain ⟨hk7,H⟩:=ck_some H
     obtain ⟨hk8,H⟩:=ck_some H
     obtain ⟨hk9,H⟩:=ck_some H
     refine .A 34 [.d (.ro (rB8 (nth v0bl1 (Int.toNat (1))))),.i ((nth v0bl1 (Int.toNat (1))).toNat:Int),.i (2+((nth v0bl1 (Int.toNat (1))).toNat:Int)),.d (.e0 1),.d (slOf 1 rB8 ((v0bl1.take (Int.toNat (2+((nth v0bl1 (Int.toNat (1))).toNat:Int)))).drop ((2:Int)).toNat)),.d (slOf 1 rB8 ((v0bl1.take (Int.toNat (2+((nth v0bl1 (Int.toNat (1))).toNat:Int)))).drop ((2:Int)).toNat)),.d (.agg (Element.row (⟨((nth v0bl1 (Int.toNat (0))).toNat:Int),(v0bl1.take (Int.toNat (2+((nth v0bl1 (Int.toNat (1))).toNat:Int)))).drop ((2:Int)).toNat⟩:Element))),.d (slOf 2 Element.row ([(⟨((nth v0bl1 (Int.toNat (0))).toNat:Int),(v0bl1.take (Int.toNat (2+((nth v0bl1 (Int.toNat (1))).toNat:Int)))).drop ((2:Int)).toNat⟩:Element)]:List Element)),.a 0 104 2 Element.row (v4outl1++([(⟨((nth v0bl1 (Int.toNat (0))).toNat:Int),(v0bl1.take (Int.toNat (2+((nth v0bl1 (Int.toNat (1))).toNat:Int)))).drop ((2:Int)).toNat⟩:Element)]:List Element)),.d (slOf 1 rB8 (v0bl1.drop (Int.toNat (2+((nth v0bl1 (Int.toNat (1))).toNat:Int)))))] rfl ⟨OpQ.g (q_slLL (l:=v0bl1) (row:=rB8) underlying22 hi5 hs5 rfl rfl rfl hk9),s102.a rfl rfl rfl rfl hk8,g_buildSlice1 underlying102 hi104 hs104 hz104 rfl rfl rfl rfl rfl,OpQ.g (q_buildP pl_104 hi104 hz104 rfl rfl),g_append0L (l':=(v0bl1.take (Int.toNat (2+((nth v0bl1 (Int.toNat (1))).toNat:Int)))).drop ((2:Int)).toNat) (row:=rB8) underlying22 hi5 hz5 hs5 rfl (by rw [hb5]; decide) rfl (.inl rfl) rfl rfl hk7,OpQ.g (q_slLHL (l:=v0bl1) (row:=rB8) underlying22 hi5 hs5 rfl rfl rfl rfl hk6),(hs5▸g_buildSlice0 underlying22 hi5),g_addI rfl rfl hk5,OpQ.g (q_conv8i (a:=nth v0bl1 (Int.toNat (1))) underlying5 underlying3 rfl),s22.ix rfl rfl rfl hk4⟩ ?_
     cases H
     exact .z (ih1 (n1,(v0bl1.drop (Int.toNat (2+((nth v0bl1 (Int.toNat (1))).toNat:Int))),v4outl1++([(⟨((nth v0bl1 (Int.toNat (0))).toNat:Int),(v0bl1.take (Int.toNat (2+((nth v0bl1 (Int.toNat (1))).toNat:Int)))).drop ((2:Int)).toNat⟩:Element)]:List Element),((nth v0bl1 (Int.toNat (0))).toNat:Int))) HK1 hm1) rfl rfl
 ·refine .A 7 [] rfl trivial ?_
  refine .R func111 results111 rfl ?_
  cases H
  cases HK1
  exact .m rfl (.tupL ⟨.tsl _ _ _,.rfl' _,trivial⟩)
theorem c_f_tagged_number {v0value:List UInt8} {r:Int×Bool} (H:f_tagged_number v0value=some r):ACall prog 133 [slOf 1 rB8 v0value] (·=.tup [cI r.1,cB r.2]):=by
 refine ACall.enter' func133 rfl ntmps133 rfl fun S hS=>?_
 unfold f_tagged_number at H
 obtain ⟨hk1,H⟩:=ck_some H
 refine .A 23 [.i (v0value.length:Int),.i (v0value.length:Int),.d (.ro (rB8 (nth v0value (Int.toNat (0))))),.b ((nth v0value (Int.toNat (0)))==0)] rfl ⟨rfl,fun hg=>OpQ.g (q8_eql (a:=nth v0value (Int.toNat (0))) (b:=0) rfl rfl),rfl,rfl,fun hg=>s22.ix rfl rfl rfl (hk1 hg),rfl,rfl,rfl,fun hg=>s22.n rfl rfl,rfl,s22.n rfl rfl⟩ ?_
 refine .ite H rfl (fun H=>?_) (fun H=>?_)
 ·refine .A 5 [] rfl trivial ?_
  refine .R func133 results133 rfl ?_
  cases H
  exact .m rfl (.tupD rfl)
 ·refine .A 13 [.i (v0value.length:Int)] rfl (s22.n rfl rfl) ?_
  obtain ⟨n1,H⟩:=loop_some H
  refine .loop (ι:=Nat×(Int×Int)) (fun ⟨_,v4nl1,v23l1⟩=>[(4,.d (cI v4nl1)),(21,.d (slOf 1 rB8 v0value)),(22,.d (cI (v0value.length:Int))),(23,.d (cI v23l1))]) (fun ⟨_,v4nl1,v23l1⟩=>⟨[],[]⟩) (fun p=>iter (fun s=>f_tagged_number_l1 v0value s.1 s.2) p.1 p.2=some r) (·.1) (n1,(0,0)) H (.cons rfl (.rfl' _) (.cons rfl (.rfl' _) (.cons rfl (.rfl' _) (.cons rfl (.rfl' _) (.nil))))) rfl ?_
  rintro ⟨m1,v4nl1,v23l1⟩ HI ih1
  obtain ⟨n1,q1,hm1,H,HK1⟩:=iter_succ HI
  clear HI
  replace H:f_tagged_number_l1 v0value v4nl1 v23l1=some q1:=H
  unfold f_tagged_number_l1 at H
  refine .A 5 [] rfl trivial ?_
  refine .ite H rfl (fun H=>?_) (fun H=>?_)
  ·obtain ⟨hk2,H⟩:=ck_some H
   obtain ⟨hk3,H⟩:=ck_some H
   obtain ⟨hk4,H⟩:=ck_some H
   obtain ⟨hk5,H⟩:=ck_some H
   refine .A 22 [.d (.ro (rB8 (nth v0value v23l1.toNat))),.i (v4nl1*2 ^ (Int.toNat (8))),.i ((nth v0value v23l1.toNat).toNat:Int),.i ((v4nl1*2 ^ (Int.toNat (8)))+((nth v0value v23l1.toNat).toNat:Int)),.i (v23l1+1)] rfl ⟨g_addI rfl rfl hk5,g_addI rfl rfl hk4,OpQ.g (q_conv8i (a:=nth v0value v23l1.toNat) underlying5 underlying3 rfl),OpQ.g (q_shlI rfl rfl hk3),s22.ix rfl rfl rfl hk2⟩ ?_
   cases H
   exact .z (ih1 (n1,((v4nl1*2 ^ (Int.toNat (8)))+((nth v0value v23l1.toNat).toNat:Int),v23l1+1)) HK1 hm1) rfl rfl
  ·refine .A 7 [] rfl trivial ?_
   refine .R func133 results133 rfl ?_
   cases H
   cases HK1
   exact .m rfl (.tupD rfl)
theorem c_f_digits_Unpack {v0b:List UInt8} {r:(List UInt8)×Int} (H:f_digits_Unpack v0b=some r):ACall prog 134 [slOf 1 rB8 v0b] (·=.tup [cS r.1,cI r.2]):=by
 obtain ⟨i5,hi5,hz5,hs5,hb5⟩:=in_5
 refine ACall.enter' func134 rfl ntmps134 rfl fun S hS=>?_
 unfold f_digits_Unpack at H
 refine .A 16 [.i (v0b.length:Int)] rfl (s22.n rfl rfl) ?_
 refine .tok (i:=4) (e:=5) (sz:=1) rfl ?_
 refine .blockJoin2 (ι:=List UInt8) (fun v4sj1=>[(4,.tsl 1 (v4sj1.map rB8) 0)]) (fun v4sj1=>⟨[],[⟨5,1,v4sj1.length,none⟩]⟩) (fun s=>f_digits_Unpack_j1 s=some r) ?_ ?_
 ·rintro v4sj1 H
  replace H:f_digits_Unpack_j1 v4sj1=some r:=H
  unfold f_digits_Unpack_j1 at H
  obtain ⟨y1,hy1,H⟩:=bind_some' H
  refine .A 8 [.s v4sj1,.b y1] rfl ⟨g_call (en 3 rfl) rfl rfl (c_f_digits_Valid (hy1)),OpQ.g (q_bytesStrL (a:=v4sj1) underlying22 underlying5 underlying9 rfl rfl)⟩ ?_
  refine .ite H rfl (fun H=>?_) (fun H=>?_)
  ·refine .A 5 [] rfl trivial ?_
   refine .R func134 results134 rfl ?_
   cases H
   exact .m rfl (.tupD rfl)
  ·refine .A 8 [.s v4sj1] rfl (OpQ.g (q_bytesStrL (a:=v4sj1) underlying22 underlying5 underlying9 rfl rfl)) ?_
   refine .R func134 results134 rfl ?_
   cases H
   exact .m rfl (.tupD rfl)
 ·intro hj1 hj1x
  obtain ⟨n1,H⟩:=loop_some H
  refine .loop (ι:=Nat×(List UInt8×Int)) (fun ⟨_,v4sl1,v9l1⟩=>[(0,.d (slOf 1 rB8 v0b)),(4,.tsl 1 (v4sl1.map rB8) 0),(7,.d (slOf 1 rB8 v0b)),(8,.d (cI (v0b.length:Int))),(9,.d (cI v9l1))]) (fun ⟨_,v4sl1,v9l1⟩=>⟨[],[⟨5,1,v4sl1.length,none⟩]⟩) (fun p=>iter (fun s=>f_digits_Unpack_l1 v0b s.1 s.2) p.1 p.2=some r) (·.1) (n1,(([]:List UInt8),0)) H (.cons rfl (.rfl' _) (.cons rfl (.rfl' _) (.cons rfl (.rfl' _) (.cons rfl (.rfl' _) (.cons rfl (.rfl' _) (.nil)))))) rfl ?_
  rintro ⟨m1,v4sl1,v9l1⟩ HI ih1
  obtain ⟨n1,q1,hm1,H,HK1⟩:=iter_succ HI
  clear HI
  replace H:f_digits_Unpack_l1 v0b v4sl1 v9l1=some q1:=H
  unfold f_digits_Unpack_l1 at H
  refine .A 5 [] rfl trivial ?_
  refine .ite H rfl (fun H=>?_) (fun H=>?_)
  ·obtain ⟨hk1,H⟩:=ck_some H
   obtain ⟨hk2,H⟩:=ck_some H
   obtain ⟨hk3,H⟩:=ck_some H
   obtain ⟨hk4,H⟩:=ck_some H
   refine .A 34 [.d (.ro (rB8 (nth v0b v9l1.toNat))),.c (u8shr (nth v0b v9l1.toNat) 4),.c (48+(u8shr (nth v0b v9l1.toNat) 4)),.d (slOf 1 rB8 ([48+(u8shr (nth v0b v9l1.toNat) 4)]:List UInt8)),.a 0 5 1 rB8 (v4sl1++([48+(u8shr (nth v0b v9l1.toNat) 4)]:List UInt8)),.c ((nth v0b v9l1.toNat) &&& 15),.b (((nth v0b v9l1.toNat) &&& 15) != 15),.i (v0b.length:Int),.i ((v0b.length:Int) - 1)] rfl ⟨rfl,rfl,rfl,fun hg=>g_subI rfl rfl (hk4 hg),rfl,fun hg=>s22.n rfl rfl,rfl,OpQ.g (q8_neq (a:=(nth v0b v9l1.toNat) &&& 15) (b:=15) rfl rfl),OpQ.g (q8_and (a:=nth v0b v9l1.toNat) (b:=15) rfl rfl),s22.a rfl rfl rfl rfl hk3,g_buildSlice1 underlying22 hi5 hs5 hz5 rfl rfl rfl rfl rfl,OpQ.g (q8_add (a:=48) (b:=u8shr (nth v0b v9l1.toNat) 4) rfl rfl),OpQ.g (q8_shr (a:=nth v0b v9l1.toNat) (n:=4) rfl rfl hk2),s22.ix rfl rfl rfl hk1⟩ ?_
   refine .ite H rfl (fun H=>?_) (fun H=>?_)
   ·obtain ⟨hk5,H⟩:=ck_some H
    obtain ⟨hk6,H⟩:=ck_some H
    refine .A 14 [.c ((nth v0b v9l1.toNat) &&& 15),.c (48+((nth v0b v9l1.toNat) &&& 15)),.d (slOf 1 rB8 ([48+((nth v0b v9l1.toNat) &&& 15)]:List UInt8)),.a 0 5 1 rB8 ((v4sl1++([48+(u8shr (nth v0b v9l1.toNat) 4)]:List UInt8))++([48+((nth v0b v9l1.toNat) &&& 15)]:List UInt8)),.i (v9l1+1)] rfl ⟨g_addI rfl rfl hk6,s22.a rfl rfl rfl rfl hk5,g_buildSlice1 underlying22 hi5 hs5 hz5 rfl rfl rfl rfl rfl,OpQ.g (q8_add (a:=48) (b:=(nth v0b v9l1.toNat) &&& 15) rfl rfl),OpQ.g (q8_and (a:=nth v0b v9l1.toNat) (b:=15) rfl rfl)⟩ ?_
    cases H
    exact .z (ih1 (n1,((v4sl1++([48+(u8shr (nth v0b v9l1.toNat) 4)]:List UInt8))++([48+((nth v0b v9l1.toNat) &&& 15)]:List UInt8),v9l1+1)) HK1 hm1) rfl rfl
   ·obtain ⟨hk7,H⟩:=ck_some H
    refine .A 6 [.i (v9l1+1)] rfl (g_addI rfl rfl hk7) ?_
    cases H
    exact .z (ih1 (n1,(v4sl1++([48+(u8shr (nth v0b v9l1.toNat) 4)]:List UInt8),v9l1+1)) HK1 hm1) rfl rfl
  ·refine .A 1 [] rfl trivial ?_
   obtain ⟨q0,H9,hq0⟩:=map_some' H; clear H; cases hq0
   cases HK1
   have H:=H9
   exact .z (hj1x v4sl1 H) rfl rfl
theorem c_g_tagged_field {v1:Element} {o0c0p:Record} {r:Bool×Record} (H:g_tagged_field v1 o0c0p=some r):ACallS prog 112 [.ref 0 0,.d (.agg (Element.row v1))] ⟨[.row 49 [.d (cI o0c0p.source),.d (cI o0c0p.serial),.d (cI o0c0p.kind),.d (cS o0c0p.a),.d (cS o0c0p.b),.d (cI o0c0p.start),.d (cI o0c0p.units),.d (cI o0c0p.call),.d (cI o0c0p.part),.d (cB o0c0p.last),.d (cI o0c0p.trunk),.d (cB o0c0p.inbound)]],[]⟩ (QE (.d (cB r.1)) ⟨[.row 49 [.d (cI r.2.source),.d (cI r.2.serial),.d (cI r.2.kind),.d (cS r.2.a),.d (cS r.2.b),.d (cI r.2.start),.d (cI r.2.units),.d (cI r.2.call),.d (cI r.2.part),.d (cB r.2.last),.d (cI r.2.trunk),.d (cB r.2.inbound)]],[]⟩):=by
 obtain ⟨i5,hi5,hz5,hs5,hb5⟩:=in_5
 obtain ⟨i79,hi79,hz79,hs79,hb79⟩:=in_79
 refine ACallS.keep ?_
 refine ACallS.enter func112 rfl ntmps112 rfl fun S hS=>?_
 unfold g_tagged_field at H
 refine .A 6 [.r 1] rfl trivial ?_
 refine .drawnM 35 0 (intKF underlying3) ([(4,1,.ref 0 2),(8,2,.ref 0 0),(12,3,.ref 0 1),(16,6,.ref 0 5),(20,7,.ref 0 6),(24,8,.ref 0 7),(28,9,.ref 0 8),(32,10,.ref 0 10)]:List (Nat×Int×EV)) hMix (by kernel_rfl) underlying163 (by decide) rfl (by decide) (by decide) ?_
 show MOps _ _ _ _ _ _ _ _ _ _ _ _ (_ :: _) _ _ _
 refine .make rfl rfl ?_
 refine .q (x:=.ref 0 0) (fun s hs=>q_move rfl) rfl rfl ?_
 refine .q (x:=.ref 0 0) (fun s hs=>q_nilRef rfl) rfl rfl ?_
 refine .q (x:=.ref 0 2) (fun s hs=>q_fieldRef fo_49_2 rfl) rfl rfl ?_
 refine .insE 0 rfl rfl rfl (fun _ _ _ h=>exKey h) rfl (by kernel_rfl) ?_
 refine .q (x:=.ref 0 0) (fun s hs=>q_move rfl) rfl rfl ?_
 refine .q (x:=.ref 0 0) (fun s hs=>q_nilRef rfl) rfl rfl ?_
 refine .q (x:=.ref 0 0) (fun s hs=>q_fieldRef fo_49_0 rfl) rfl rfl ?_
 refine .insE 1 rfl rfl rfl (fun _ _ _ h=>exKey h) rfl (by kernel_rfl) ?_
 refine .q (x:=.ref 0 0) (fun s hs=>q_move rfl) rfl rfl ?_
 refine .q (x:=.ref 0 0) (fun s hs=>q_nilRef rfl) rfl rfl ?_
 refine .q (x:=.ref 0 1) (fun s hs=>q_fieldRef fo_49_1 rfl) rfl rfl ?_
 refine .insE 2 rfl rfl rfl (fun _ _ _ h=>exKey h) rfl (by kernel_rfl) ?_
 refine .q (x:=.ref 0 0) (fun s hs=>q_move rfl) rfl rfl ?_
 refine .q (x:=.ref 0 0) (fun s hs=>q_nilRef rfl) rfl rfl ?_
 refine .q (x:=.ref 0 5) (fun s hs=>q_fieldRef fo_49_5 rfl) rfl rfl ?_
 refine .insE 3 rfl rfl rfl (fun _ _ _ h=>exKey h) rfl (by kernel_rfl) ?_
 refine .q (x:=.ref 0 0) (fun s hs=>q_move rfl) rfl rfl ?_
 refine .q (x:=.ref 0 0) (fun s hs=>q_nilRef rfl) rfl rfl ?_
 refine .q (x:=.ref 0 6) (fun s hs=>q_fieldRef fo_49_6 rfl) rfl rfl ?_
 refine .insE 4 rfl rfl rfl (fun _ _ _ h=>exKey h) rfl (by kernel_rfl) ?_
 refine .q (x:=.ref 0 0) (fun s hs=>q_move rfl) rfl rfl ?_
 refine .q (x:=.ref 0 0) (fun s hs=>q_nilRef rfl) rfl rfl ?_
 refine .q (x:=.ref 0 7) (fun s hs=>q_fieldRef fo_49_7 rfl) rfl rfl ?_
 refine .insE 5 rfl rfl rfl (fun _ _ _ h=>exKey h) rfl (by kernel_rfl) ?_
 refine .q (x:=.ref 0 0) (fun s hs=>q_move rfl) rfl rfl ?_
 refine .q (x:=.ref 0 0) (fun s hs=>q_nilRef rfl) rfl rfl ?_
 refine .q (x:=.ref 0 8) (fun s hs=>q_fieldRef fo_49_8 rfl) rfl rfl ?_
 refine .insE 6 rfl rfl rfl (fun _ _ _ h=>exKey h) rfl (by kernel_rfl) ?_
 refine .q (x:=.ref 0 0) (fun s hs=>q_move rfl) rfl rfl ?_
 refine .q (x:=.ref 0 0) (fun s hs=>q_nilRef rfl) rfl rfl ?_
 refine .q (x:=.ref 0 10) (fun s hs=>q_fieldRef fo_49_10 rfl) rfl rfl ?_
 refine .insE 7 rfl rfl rfl (fun _ _ _ h=>exKey h) rfl (by kernel_rfl) ?_
 refine .q (x:=.mp 2) (fun s hs=>q_move rfl) rfl rfl ?_
 refine .q (x:=.mp 2) (fun s hs=>q_assign rfl) rfl rfl ?_
 refine .nil fun es1 hes1=>?_
 show AOps _ _ _ _ _ _ [] _ _ _
 refine .nil ?_
 refine .A 2 [] rfl trivial ?_
 refine .split (decide (v1.tag=1)) (fun hsp1=>?_) (fun hsp1=>?_)
 ·replace H:=ifT hsp1 H
  refine .A 15 [.g (.tup [.ref 0 2,.d (cB true)])] rfl (OpQ.g (q_lookupSome (intKF underlying3) (l:=es1) (k:=1) (ev:=.ref 0 2) underlying163 hi79 hz79 rfl rfl hes1 (by decide) (List.mem_of_getElem? (i:=0) rfl) rfl (fun _ _ _ h=>(exKey h).trans (congrArg (Value.int .i64) (of_decide_eq_true hsp1))))) ?_
  refine .cond rfl (fun hc=>?_) (fun hc=>nomatch hc)
  clear hc
  obtain ⟨y1,hy1,H⟩:=bind_some' H
  refine .A 18 [.d (.tup [cI y1.1,cB y1.2])] rfl (g_call (en 55 rfl) rfl rfl (c_f_tagged_number (hy1))) ?_
  refine .R func112 results112 rfl ?_
  cases H
  exact ⟨[0],[],rfl,rfl,rfl,rfl,rfl,rfl,rfl,rfl,.rfl' _⟩
 ·replace H:=ifF hsp1 H
  refine .split (decide (v1.tag=2)) (fun hsp2=>?_) (fun hsp2=>?_)
  ·replace H:=ifT hsp2 H
   refine .A 15 [.g (.tup [.ref 0 0,.d (cB true)])] rfl (OpQ.g (q_lookupSome (intKF underlying3) (l:=es1) (k:=2) (ev:=.ref 0 0) underlying163 hi79 hz79 rfl rfl hes1 (by decide) (List.mem_of_getElem? (i:=1) rfl) rfl (fun _ _ _ h=>(exKey h).trans (congrArg (Value.int .i64) (of_decide_eq_true hsp2))))) ?_
   refine .cond rfl (fun hc=>?_) (fun hc=>nomatch hc)
   clear hc
   obtain ⟨y2,hy2,H⟩:=bind_some' H
   refine .A 18 [.d (.tup [cI y2.1,cB y2.2])] rfl (g_call (en 55 rfl) rfl rfl (c_f_tagged_number (hy2))) ?_
   refine .R func112 results112 rfl ?_
   cases H
   exact ⟨[0],[],rfl,rfl,rfl,rfl,rfl,rfl,rfl,rfl,.rfl' _⟩
  ·replace H:=ifF hsp2 H
   refine .split (decide (v1.tag=3)) (fun hsp3=>?_) (fun hsp3=>?_)
   ·replace H:=ifT hsp3 H
    refine .A 15 [.g (.tup [.ref 0 1,.d (cB true)])] rfl (OpQ.g (q_lookupSome (intKF underlying3) (l:=es1) (k:=3) (ev:=.ref 0 1) underlying163 hi79 hz79 rfl rfl hes1 (by decide) (List.mem_of_getElem? (i:=2) rfl) rfl (fun _ _ _ h=>(exKey h).trans (congrArg (Value.int .i64) (of_decide_eq_true hsp3))))) ?_
    refine .cond rfl (fun hc=>?_) (fun hc=>nomatch hc)
    clear hc
    obtain ⟨y3,hy3,H⟩:=bind_some' H
    refine .A 18 [.d (.tup [cI y3.1,cB y3.2])] rfl (g_call (en 55 rfl) rfl rfl (c_f_tagged_number (hy3))) ?_
    refine .R func112 results112 rfl ?_
    cases H
    exact ⟨[0],[],rfl,rfl,rfl,rfl,rfl,rfl,rfl,rfl,.rfl' _⟩
   ·replace H:=ifF hsp3 H
    refine .split (decide (v1.tag=6)) (fun hsp4=>?_) (fun hsp4=>?_)
    ·replace H:=ifT hsp4 H
     refine .A 15 [.g (.tup [.ref 0 5,.d (cB true)])] rfl (OpQ.g (q_lookupSome (intKF underlying3) (l:=es1) (k:=6) (ev:=.ref 0 5) underlying163 hi79 hz79 rfl rfl hes1 (by decide) (List.mem_of_getElem? (i:=3) rfl) rfl (fun _ _ _ h=>(exKey h).trans (congrArg (Value.int .i64) (of_decide_eq_true hsp4))))) ?_
     refine .cond rfl (fun hc=>?_) (fun hc=>nomatch hc)
     clear hc
     obtain ⟨y4,hy4,H⟩:=bind_some' H
     refine .A 18 [.d (.tup [cI y4.1,cB y4.2])] rfl (g_call (en 55 rfl) rfl rfl (c_f_tagged_number (hy4))) ?_
     refine .R func112 results112 rfl ?_
     cases H
     exact ⟨[0],[],rfl,rfl,rfl,rfl,rfl,rfl,rfl,rfl,.rfl' _⟩
    ·replace H:=ifF hsp4 H
     refine .split (decide (v1.tag=7)) (fun hsp5=>?_) (fun hsp5=>?_)
     ·replace H:=ifT hsp5 H
      refine .A 15 [.g (.tup [.ref 0 6,.d (cB true)])] rfl (OpQ.g (q_lookupSome (intKF underlying3) (l:=es1) (k:=7) (ev:=.ref 0 6) underlying163 hi79 hz79 rfl rfl hes1 (by decide) (List.mem_of_getElem? (i:=4) rfl) rfl (fun _ _ _ h=>(exKey h).trans (congrArg (Value.int .i64) (of_decide_eq_true hsp5))))) ?_
      refine .cond rfl (fun hc=>?_) (fun hc=>nomatch hc)
      clear hc
      obtain ⟨y5,hy5,H⟩:=bind_some' H
      refine .A 18 [.d (.tup [cI y5.1,cB y5.2])] rfl (g_call (en 55 rfl) rfl rfl (c_f_tagged_number (hy5))) ?_
      refine .R func112 results112 rfl ?_
      cases H
      exact ⟨[0],[],rfl,rfl,rfl,rfl,rfl,rfl,rfl,rfl,.rfl' _⟩
     ·replace H:=ifF hsp5 H
      refine .split (decide (v1.tag=8)) (fun hsp6=>?_) (fun hsp6=>?_)
      ·replace H:=ifT hsp6 H
       refine .A 15 [.g (.tup [.ref 0 7,.d (cB true)])] rfl (OpQ.g (q_lookupSome (intKF underlying3) (l:=es1) (k:=8) (ev:=.ref 0 7) underlying163 hi79 hz79 rfl rfl hes1 (by decide) (List.mem_of_getElem? (i:=5) rfl) rfl (fun _ _ _ h=>(exKey h).trans (congrArg (Value.int .i64) (of_decide_eq_true hsp6))))) ?_
       refine .cond rfl (fun hc=>?_) (fun hc=>nomatch hc)
       clear hc
       obtain ⟨y6,hy6,H⟩:=bind_some' H
       refine .A 18 [.d (.tup [cI y6.1,cB y6.2])] rfl (g_call (en 55 rfl) rfl rfl (c_f_tagged_number (hy6))) ?_
       refine .R func112 results112 rfl ?_
       cases H
       exact ⟨[0],[],rfl,rfl,rfl,rfl,rfl,rfl,rfl,rfl,.rfl' _⟩
      ·replace H:=ifF hsp6 H
       refine .split (decide (v1.tag=9)) (fun hsp7=>?_) (fun hsp7=>?_)
       ·replace H:=ifT hsp7 H
        refine .A 15 [.g (.tup [.ref 0 8,.d (cB true)])] rfl (OpQ.g (q_lookupSome (intKF underlying3) (l:=es1) (k:=9) (ev:=.ref 0 8) underlying163 hi79 hz79 rfl rfl hes1 (by decide) (List.mem_of_getElem? (i:=6) rfl) rfl (fun _ _ _ h=>(exKey h).trans (congrArg (Value.int .i64) (of_decide_eq_true hsp7))))) ?_
        refine .cond rfl (fun hc=>?_) (fun hc=>nomatch hc)
        clear hc
        obtain ⟨y7,hy7,H⟩:=bind_some' H
        refine .A 18 [.d (.tup [cI y7.1,cB y7.2])] rfl (g_call (en 55 rfl) rfl rfl (c_f_tagged_number (hy7))) ?_
        refine .R func112 results112 rfl ?_
        cases H
        exact ⟨[0],[],rfl,rfl,rfl,rfl,rfl,rfl,rfl,rfl,.rfl' _⟩
       ·replace H:=ifF hsp7 H
        refine .split (decide (v1.tag=10)) (fun hsp8=>?_) (fun hsp8=>?_)
        ·replace H:=ifT hsp8 H
         refine .A 15 [.g (.tup [.ref 0 10,.d (cB true)])] rfl (OpQ.g (q_lookupSome (intKF underlying3) (l:=es1) (k:=10) (ev:=.ref 0 10) underlying163 hi79 hz79 rfl rfl hes1 (by decide) (List.mem_of_getElem? (i:=7) rfl) rfl (fun _ _ _ h=>(exKey h).trans (congrArg (Value.int .i64) (of_decide_eq_true hsp8))))) ?_
         refine .cond rfl (fun hc=>?_) (fun hc=>nomatch hc)
         clear hc
         obtain ⟨y8,hy8,H⟩:=bind_some' H
         refine .A 18 [.d (.tup [cI y8.1,cB y8.2])] rfl (g_call (en 55 rfl) rfl rfl (c_f_tagged_number (hy8))) ?_
         refine .R func112 results112 rfl ?_
         cases H
         exact ⟨[0],[],rfl,rfl,rfl,rfl,rfl,rfl,rfl,rfl,.rfl' _⟩
        ·replace H:=ifF hsp8 H
         refine .A 15 [.g (.tup [.d (.any),.d (cB false)])] rfl (OpQ.g (q_lookupNone (intKF underlying3) (l:=es1) (k:=v1.tag) underlying163 hi79 hz79 rfl rfl hes1 (by simp only [List.map_cons,List.map_nil,List.mem_cons,List.not_mem_nil,or_false,not_or]; exact ⟨of_decide_eq_false hsp1,of_decide_eq_false hsp2,of_decide_eq_false hsp3,of_decide_eq_false hsp4,of_decide_eq_false hsp5,of_decide_eq_false hsp6,of_decide_eq_false hsp7,of_decide_eq_false hsp8⟩) rfl (fun _ _ _ h=>exKey h))) ?_
         refine .cond rfl (fun hc=>nomatch hc) (fun hc=>?_)
         clear hc
         refine .A 8 [] rfl trivial ?_
         refine .seqJoin (ι:=Bool) (fun v55j1=>[(0,.ref 0 0),(3,.ref 1 0),(54,.d (cI v1.tag)),(55,.d (cB v55j1))]) (fun v55j1=>⟨[.row 49 [.d (cI o0c0p.source),.d (cI o0c0p.serial),.d (cI o0c0p.kind),.d (cS o0c0p.a),.d (cS o0c0p.b),.d (cI o0c0p.start),.d (cI o0c0p.units),.d (cI o0c0p.call),.d (cI o0c0p.part),.d (cB o0c0p.last),.d (cI o0c0p.trunk),.d (cB o0c0p.inbound)],.row 104 [.d (cI v1.tag),.d (slOf 1 rB8 v1.value)],.map (encE (fun n=>Value.int .i64 n) es1)],[]⟩) (fun s=>g_tagged_field_j1 v1 o0c0p s=some r) ?_ ?_
         ·rintro v55j1 H
          replace H:g_tagged_field_j1 v1 o0c0p v55j1=some r:=H
          unfold g_tagged_field_j1 at H
          refine .ite H rfl (fun H=>?_) (fun H=>?_)
          ·obtain ⟨y9,hy9,H⟩:=bind_some' H
           refine .A 18 [.d (.tup [cS y9.1,cI y9.2])] rfl (g_call (en 56 rfl) rfl rfl (c_f_digits_Unpack (hy9))) ?_
           refine .ite H rfl (fun H=>?_) (fun H=>?_)
           ·refine .A 13 [] rfl trivial ?_
            refine .R func112 results112 rfl ?_
            cases H
            exact ⟨[0],[],rfl,rfl,rfl,rfl,rfl,rfl,rfl,rfl,.rfl' _⟩
           ·refine .A 13 [] rfl trivial ?_
            refine .R func112 results112 rfl ?_
            cases H
            exact ⟨[0],[],rfl,rfl,rfl,rfl,rfl,rfl,rfl,rfl,.rfl' _⟩
          ·refine .A 5 [] rfl trivial ?_
           refine .ite H rfl (fun H=>?_) (fun H=>?_)
           ·obtain ⟨hk1,H⟩:=ck_some H
            obtain ⟨hk2,H⟩:=ck_some H
            refine .A 22 [.i (v1.value.length:Int),.d (.ro (rB8 (nth v1.value (Int.toNat (0))))),.b (decide ((nth v1.value (Int.toNat (0))) < 1)),.d (.ro (rB8 (nth v1.value (Int.toNat (0))))),.b (decide ((nth v1.value (Int.toNat (0))) > 3))] rfl ⟨rfl,fun hg=>OpQ.g (q8_gtr (a:=nth v1.value (Int.toNat (0))) (b:=3) rfl rfl),rfl,rfl,fun hg=>s22.ix rfl rfl rfl (hk2 hg),rfl,rfl,rfl,fun hg=>OpQ.g (q8_lss (a:=nth v1.value (Int.toNat (0))) (b:=1) rfl rfl),rfl,rfl,fun hg=>s22.ix rfl rfl rfl (hk1 hg),rfl,rfl,s22.n rfl rfl⟩ ?_
            refine .ite H rfl (fun H=>?_) (fun H=>?_)
            ·refine .A 4 [] rfl trivial ?_
             refine .R func112 results112 rfl ?_
             cases H
             exact ⟨[0],[],rfl,rfl,rfl,rfl,rfl,rfl,rfl,rfl,.rfl' _⟩
            ·refine .A 2 [] rfl trivial ?_
             obtain ⟨hk3,H⟩:=ck_some H
             obtain ⟨hk4,H⟩:=ck_some H
             refine .orders1 17 16 [⟨[.row 49 [.d (cI o0c0p.source),.d (cI o0c0p.serial),.d (cI o0c0p.kind),.d (cS o0c0p.a),.d (cS o0c0p.b),.d (cI o0c0p.start),.d (cI o0c0p.units),.d (cI o0c0p.call),.d (cI o0c0p.part),.d (cB o0c0p.last),.d (cI o0c0p.trunk),.d (cB o0c0p.inbound)],.row 104 [.d (cI v1.tag),.d (slOf 1 rB8 v1.value)],.map (encE (fun n=>Value.int .i64 n) es1)],[]⟩,⟨[.row 49 [.d (cI o0c0p.source),.d (cI o0c0p.serial),.d (cI o0c0p.kind),.d (cS o0c0p.a),.d (cS o0c0p.b),.d (cI o0c0p.start),.d (cI o0c0p.units),.d (cI o0c0p.call),.d (cI o0c0p.part),.d (cB (((nth v1.value (Int.toNat (0))) &&& 1) != 0)),.d (cI o0c0p.trunk),.d (cB o0c0p.inbound)],.row 104 [.d (cI v1.tag),.d (slOf 1 rB8 v1.value)],.map (encE (fun n=>Value.int .i64 n) es1)],[]⟩] hMix (by kernel_rfl) (by decide) rfl ?_
             show XOps _ _ _ _ _ _ _ _ _ _ (_ :: _) _ _
             refine .g (x:=.ref 0 0) 0 0 ⟨OpQ.g (q_move rfl),trivial⟩ rfl (by kernel_rfl) rfl ?_
             refine .g (x:=.ref 0 0) 0 1 ⟨OpQ.g (q_move rfl),OpQ.g (q_move rfl),trivial⟩ rfl (by kernel_rfl) rfl ?_
             refine .g (x:=.ref 1 1) 0 0 ⟨OpQ.g (q_fieldRef fo_104_1 rfl),trivial⟩ rfl (by kernel_rfl) rfl ?_
             refine .g (x:=.d (slOf 1 rB8 v1.value)) 0 0 ⟨OpQ.g (q_loadO one_22 rfl rfl rfl),trivial⟩ rfl (by kernel_rfl) rfl ?_
             refine .g (x:=.d (.ro (rB8 (nth v1.value (Int.toNat (0)))))) 0 0 ⟨OpQ.g (q_idxL (row:=rB8) (l:=v1.value) (i:=0) underlying22 hi5 hs5 rfl rfl rfl hk3),trivial⟩ rfl (by kernel_rfl) rfl ?_
             refine .g (x:=.d (cU8 (nth v1.value (Int.toNat (0))))) 0 0 ⟨OpQ.g (q_load one_5 rfl),trivial⟩ rfl (by kernel_rfl) rfl ?_
             refine .g (x:=.d (cU8 ((nth v1.value (Int.toNat (0))) &&& 1))) 0 0 ⟨OpQ.g (q8_and (a:=nth v1.value (Int.toNat (0))) (b:=1) rfl rfl),trivial⟩ rfl (by kernel_rfl) rfl ?_
             refine .g (x:=.d (cB (((nth v1.value (Int.toNat (0))) &&& 1) != 0))) 0 0 ⟨OpQ.g (q8_neq (a:=(nth v1.value (Int.toNat (0))) &&& 1) (b:=0) rfl rfl),trivial⟩ rfl (by kernel_rfl) rfl ?_
             refine .g (x:=.ref 1 1) 0 0 ⟨OpQ.g (q_fieldRef fo_104_1 rfl),trivial⟩ rfl (by kernel_rfl) rfl ?_
             refine .g (x:=.d (slOf 1 rB8 v1.value)) 0 0 ⟨OpQ.g (q_loadO one_22 rfl rfl rfl),trivial⟩ rfl (by kernel_rfl) rfl ?_
             refine .g (x:=.d (.ro (rB8 (nth v1.value (Int.toNat (0)))))) 0 0 ⟨OpQ.g (q_idxL (row:=rB8) (l:=v1.value) (i:=0) underlying22 hi5 hs5 rfl rfl rfl hk4),trivial⟩ rfl (by kernel_rfl) rfl ?_
             refine .g (x:=.d (cU8 (nth v1.value (Int.toNat (0))))) 0 0 ⟨OpQ.g (q_load one_5 rfl),trivial⟩ rfl (by kernel_rfl) rfl ?_
             refine .g (x:=.d (cU8 ((nth v1.value (Int.toNat (0))) &&& 2))) 0 1 ⟨OpQ.g (q8_and (a:=nth v1.value (Int.toNat (0))) (b:=2) rfl rfl),OpQ.g (q8_and (a:=nth v1.value (Int.toNat (0))) (b:=2) rfl rfl),trivial⟩ rfl (by kernel_rfl) rfl ?_
             refine .g (x:=.d (cB (((nth v1.value (Int.toNat (0))) &&& 2) != 0))) 0 1 ⟨OpQ.g (q8_neq (a:=(nth v1.value (Int.toNat (0))) &&& 2) (b:=0) rfl rfl),OpQ.g (q8_neq (a:=(nth v1.value (Int.toNat (0))) &&& 2) (b:=0) rfl rfl),trivial⟩ rfl (by kernel_rfl) rfl ?_
             refine .g (x:=.ref 0 0) 0 0 ⟨OpQ.g (q_nilRef rfl),trivial⟩ rfl (by kernel_rfl) rfl ?_
             refine .g (x:=.ref 0 9) 0 0 ⟨OpQ.g (q_fieldRef fo_49_9 rfl),trivial⟩ rfl (by kernel_rfl) rfl ?_
             refine .u 0 (u_store rfl rfl rfl rfl (Nat.le_of_ble_eq_true rfl) sz_4) rfl rfl rfl rfl ?_
             refine .nil rfl ?_
             show AOps _ _ _ _ _ _ (_ :: _) _ _ _
             refine .A 8 [] rfl trivial ?_
             refine .R func112 results112 rfl ?_
             cases H
             exact ⟨[0],[],rfl,rfl,rfl,rfl,rfl,rfl,rfl,rfl,.rfl' _⟩
           ·refine .A 6 [] rfl trivial ?_
            refine .R func112 results112 rfl ?_
            cases H
            exact ⟨[0],[],rfl,rfl,rfl,rfl,rfl,rfl,rfl,rfl,.rfl' _⟩
         ·intro hj1
          refine .A 5 [] rfl trivial ?_
          refine .ite H rfl (fun H=>?_) (fun H=>?_)
          ·refine .A 1 [] rfl trivial ?_
           exact .z (hj1 (v1.tag==4) H) rfl rfl
          ·refine .A 4 [] rfl trivial ?_
           exact .z (hj1 (v1.tag==5) H) rfl rfl
theorem c_f_tagged_Decode {v0b:List UInt8} {r:Record×Int} (H:f_tagged_Decode v0b=some r):ACall prog 78 [slOf 1 rB8 v0b] (·=.tup [.agg (Record.row r.1),cI r.2]):=by
 obtain ⟨i5,hi5,hz5,hs5,hb5⟩:=in_5
 obtain ⟨i49,hi49,hz49,hs49,hb49⟩:=in_49
 refine ACall.enter' func78 rfl ntmps78 rfl fun S hS=>?_
 unfold f_tagged_Decode at H
 obtain ⟨y1,hy1,H⟩:=bind_some' H
 refine .A 15 [.r 0,.d (.tup [cI y1.1,cI y1.2])] rfl (g_call (en 57 rfl) rfl rfl (c_f_tagged_size (hy1))) ?_
 refine .seqJoin (ι:=Int) (fun v5ej1=>[(0,.d (slOf 1 rB8 v0b)),(2,.ref 0 0),(5,.d (cI v5ej1))]) (fun v5ej1=>⟨[.row 49 [.d (cI 0),.d (cI 0),.d (cI 0),.d (cS ([]:List UInt8)),.d (cS ([]:List UInt8)),.d (cI 0),.d (cI 0),.d (cI 0),.d (cI 0),.d (cB false),.d (cI 0),.d (cB false)]],[]⟩) (fun s=>f_tagged_Decode_j1 v0b s=some r) ?_ ?_
 ·rintro v5ej1 H
  replace H:f_tagged_Decode_j1 v0b v5ej1=some r:=H
  unfold f_tagged_Decode_j1 at H
  refine .A 6 [] rfl trivial ?_
  refine .ite H rfl (fun H=>?_) (fun H=>?_)
  ·refine .A 7 [.d (.agg (Record.row (⟨0,0,0,([]:List UInt8),([]:List UInt8),0,0,0,0,false,0,false⟩:Record)))] rfl (OpQ.g (q_buildP pl_49 hi49 hz49 rfl rfl)) ?_
   refine .R func78 results78 rfl ?_
   cases H
   exact .m rfl (.tupD rfl)
  ·obtain ⟨hk1,H⟩:=ck_some H
   obtain ⟨y2,hy2,H⟩:=bind_some' H
   refine .A 18 [.d (slOf 1 rB8 (v0b.drop ((2:Int)).toNat)),.d (.tup [slOf 2 Element.row y2.1,cI y2.2])] rfl ⟨g_call (en 58 rfl) rfl rfl (c_f_tagged_Elements (hy2)),OpQ.g (q_slLL (l:=v0b) (row:=rB8) underlying22 hi5 hs5 rfl rfl rfl hk1)⟩ ?_
   refine .ite H rfl (fun H=>?_) (fun H=>?_)
   ·refine .A 7 [.d (.agg (Record.row (⟨0,0,0,([]:List UInt8),([]:List UInt8),0,0,0,0,false,0,false⟩:Record)))] rfl (OpQ.g (q_buildP pl_49 hi49 hz49 rfl rfl)) ?_
    refine .R func78 results78 rfl ?_
    cases H
    exact .m rfl (.tupD rfl)
   ·refine .A 12 [.r 1,.i (y2.1.length:Int)] rfl (s102.n rfl rfl) ?_
    refine .blockJoin2 (ι:=Int×Int×Int×List UInt8×List UInt8×Int×Int×Int×Int×Bool×Int×Bool) (fun ⟨o1c0j2,o1c1j2,o1c2j2,o1c3j2,o1c4j2,o1c5j2,o1c6j2,o1c7j2,o1c8j2,o1c9j2,o1c10j2,o1c11j2⟩=>[(2,.ref 0 0),(7,.ref 1 0)]) (fun ⟨o1c0j2,o1c1j2,o1c2j2,o1c3j2,o1c4j2,o1c5j2,o1c6j2,o1c7j2,o1c8j2,o1c9j2,o1c10j2,o1c11j2⟩=>⟨[.row 49 [.d (cI 0),.d (cI 0),.d (cI 0),.d (cS ([]:List UInt8)),.d (cS ([]:List UInt8)),.d (cI 0),.d (cI 0),.d (cI 0),.d (cI 0),.d (cB false),.d (cI 0),.d (cB false)],.row 49 [.d (cI o1c0j2),.d (cI o1c1j2),.d (cI o1c2j2),.d (cS o1c3j2),.d (cS o1c4j2),.d (cI o1c5j2),.d (cI o1c6j2),.d (cI o1c7j2),.d (cI o1c8j2),.d (cB o1c9j2),.d (cI o1c10j2),.d (cB o1c11j2)]],[]⟩) (fun s=>f_tagged_Decode_j2 s.1 s.2.1 s.2.2.1 s.2.2.2.1 s.2.2.2.2.1 s.2.2.2.2.2.1 s.2.2.2.2.2.2.1 s.2.2.2.2.2.2.2.1 s.2.2.2.2.2.2.2.2.1 s.2.2.2.2.2.2.2.2.2.1 s.2.2.2.2.2.2.2.2.2.2.1 s.2.2.2.2.2.2.2.2.2.2.2=some r) ?_ ?_
    ·rintro ⟨o1c0j2,o1c1j2,o1c2j2,o1c3j2,o1c4j2,o1c5j2,o1c6j2,o1c7j2,o1c8j2,o1c9j2,o1c10j2,o1c11j2⟩ H
     replace H:f_tagged_Decode_j2 o1c0j2 o1c1j2 o1c2j2 o1c3j2 o1c4j2 o1c5j2 o1c6j2 o1c7j2 o1c8j2 o1c9j2 o1c10j2 o1c11j2=some r:=H
     unfold f_tagged_Decode_j2 at H
     obtain ⟨y3,hy3,H⟩:=bind_some' H
     refine .A 16 [.d (.tup [cS y3.1,cI y3.2])] rfl (g_call (en 9 rfl) rfl rfl (c_f_textual_Encode (hy3))) ?_
     refine .ite H rfl (fun H=>?_) (fun H=>?_)
     ·refine .A 7 [.d (.agg (Record.row (⟨0,0,0,([]:List UInt8),([]:List UInt8),0,0,0,0,false,0,false⟩:Record)))] rfl (OpQ.g (q_buildP pl_49 hi49 hz49 rfl rfl)) ?_
      refine .R func78 results78 rfl ?_
      cases H
      exact .m rfl (.tupD rfl)
     ·refine .A 7 [] rfl trivial ?_
      refine .R func78 results78 rfl ?_
      cases H
      exact .m rfl (.tupD rfl)
    ·intro hj2 hj2x
     obtain ⟨n1,H⟩:=loop_some H
     refine .loop (ι:=Nat×(Int×Int×Int×Int×List UInt8×List UInt8×Int×Int×Int×Int×Bool×Int×Bool)) (fun ⟨_,v41l1,o1c0l1,o1c1l1,o1c2l1,o1c3l1,o1c4l1,o1c5l1,o1c6l1,o1c7l1,o1c8l1,o1c9l1,o1c10l1,o1c11l1⟩=>[(2,.ref 0 0),(7,.ref 1 0),(39,.d (slOf 2 Element.row y2.1)),(40,.d (cI (y2.1.length:Int))),(41,.d (cI v41l1))]) (fun ⟨_,v41l1,o1c0l1,o1c1l1,o1c2l1,o1c3l1,o1c4l1,o1c5l1,o1c6l1,o1c7l1,o1c8l1,o1c9l1,o1c10l1,o1c11l1⟩=>⟨[.row 49 [.d (cI 0),.d (cI 0),.d (cI 0),.d (cS ([]:List UInt8)),.d (cS ([]:List UInt8)),.d (cI 0),.d (cI 0),.d (cI 0),.d (cI 0),.d (cB false),.d (cI 0),.d (cB false)],.row 49 [.d (cI o1c0l1),.d (cI o1c1l1),.d (cI o1c2l1),.d (cS o1c3l1),.d (cS o1c4l1),.d (cI o1c5l1),.d (cI o1c6l1),.d (cI o1c7l1),.d (cI o1c8l1),.d (cB o1c9l1),.d (cI o1c10l1),.d (cB o1c11l1)]],[]⟩) (fun p=>iter (fun s=>f_tagged_Decode_l1 y2 s.1 s.2.1 s.2.2.1 s.2.2.2.1 s.2.2.2.2.1 s.2.2.2.2.2.1 s.2.2.2.2.2.2.1 s.2.2.2.2.2.2.2.1 s.2.2.2.2.2.2.2.2.1 s.2.2.2.2.2.2.2.2.2.1 s.2.2.2.2.2.2.2.2.2.2.1 s.2.2.2.2.2.2.2.2.2.2.2.1 s.2.2.2.2.2.2.2.2.2.2.2.2) p.1 p.2=some r) (·.1) (n1,(0,0,0,0,([]:List UInt8),([]:List UInt8),0,0,0,0,false,0,false)) H (.cons rfl (.rfl' _) (.cons rfl (.rfl' _) (.cons rfl (.rfl' _) (.cons rfl (.rfl' _) (.cons rfl (.rfl' _) (.nil)))))) rfl ?_
     rintro ⟨m1,v41l1,o1c0l1,o1c1l1,o1c2l1,o1c3l1,o1c4l1,o1c5l1,o1c6l1,o1c7l1,o1c8l1,o1c9l1,o1c10l1,o1c11l1⟩ HI ih1
     obtain ⟨n1,q1,hm1,H,HK1⟩:=iter_succ HI
     clear HI
     replace H:f_tagged_Decode_l1 y2 v41l1 o1c0l1 o1c1l1 o1c2l1 o1c3l1 o1c4l1 o1c5l1 o1c6l1 o1c7l1 o1c8l1 o1c9l1 o1c10l1 o1c11l1=some q1:=H
     unfold f_tagged_Decode_l1 at H
     refine .A 5 [] rfl trivial ?_
     refine .ite H rfl (fun H=>?_) (fun H=>?_)
     ·obtain ⟨hk2,H⟩:=ck_some H
      obtain ⟨y4,hy4,H⟩:=bind_some' H
      refine .B 13 [.d (.ro (Element.row (nth y2.1 v41l1.toNat))),.r 2] rfl (s102.ix rfl rfl rfl hk2) ?_
      refine .callF (en 59 rfl) rfl [1] [] (x:=.d (cB y4.1)) (st':=⟨[.row 49 [.d (cI 0),.d (cI 0),.d (cI 0),.d (cS ([]:List UInt8)),.d (cS ([]:List UInt8)),.d (cI 0),.d (cI 0),.d (cI 0),.d (cI 0),.d (cB false),.d (cI 0),.d (cB false)],.row 49 [.d (cI y4.2.source),.d (cI y4.2.serial),.d (cI y4.2.kind),.d (cS y4.2.a),.d (cS y4.2.b),.d (cI y4.2.start),.d (cI y4.2.units),.d (cI y4.2.call),.d (cI y4.2.part),.d (cB y4.2.last),.d (cI y4.2.trunk),.d (cB y4.2.inbound)],.row 104 [.d (cI ((nth y2.1 v41l1.toNat).tag)),.d (slOf 1 rB8 ((nth y2.1 v41l1.toNat).value))]],[]⟩) rfl (c_g_tagged_field (hy4)) ⟨.rfl' _,.rfl' _,trivial⟩ rfl rfl rfl rfl rfl rfl ?_
      refine .A 2 [] rfl trivial ?_
      refine .ite H rfl (fun H=>?_) (fun H=>?_)
      ·refine .A 6 [.d (.agg (Record.row (⟨0,0,0,([]:List UInt8),([]:List UInt8),0,0,0,0,false,0,false⟩:Record)))] rfl (OpQ.g (q_buildP pl_49 hi49 hz49 rfl rfl)) ?_
       refine .R func78 results78 rfl ?_
       cases H
       cases HK1
       exact .m rfl (.tupD rfl)
      ·obtain ⟨hk3,H⟩:=ck_some H
       refine .A 6 [.i (v41l1+1)] rfl (g_addI rfl rfl hk3) ?_
       cases H
       exact .t 2 0 (ih1 (n1,(v41l1+1,y4.2.source,y4.2.serial,y4.2.kind,y4.2.a,y4.2.b,y4.2.start,y4.2.units,y4.2.call,y4.2.part,y4.2.last,y4.2.trunk,y4.2.inbound)) HK1 hm1) rfl rfl rfl rfl rfl hS rfl
     ·refine .A 1 [] rfl trivial ?_
      obtain ⟨q0,H9,hq0⟩:=map_some' H; clear H; cases hq0
      cases HK1
      have H:=H9
      exact .z (hj2x (o1c0l1,o1c1l1,o1c2l1,o1c3l1,o1c4l1,o1c5l1,o1c6l1,o1c7l1,o1c8l1,o1c9l1,o1c10l1,o1c11l1) H) rfl rfl
 ·intro hj1
  refine .A 11 [.i (v0b.length:Int)] rfl ⟨rfl,rfl,rfl,fun hg=>s22.n rfl rfl,rfl⟩ ?_
  refine .ite H rfl (fun H=>?_) (fun H=>?_)
  ·refine .A 3 [] rfl trivial ?_
   exact .z (hj1 3 H) rfl rfl
  ·refine .A 1 [] rfl trivial ?_
   exact .z (hj1 y1.2 H) rfl rfl
theorem c_f_tagged_All {v0b:List UInt8} {r:(List Record)×(List Reject)×Int} (H:f_tagged_All v0b=some r):ACall prog 47 [slOf 1 rB8 v0b] (·=.tup [slOf 12 Record.row r.1,slOf 4 Reject.row r.2.1,cI r.2.2]):=by
 obtain ⟨i5,hi5,hz5,hs5,hb5⟩:=in_5
 obtain ⟨i49,hi49,hz49,hs49,hb49⟩:=in_49
 obtain ⟨i64,hi64,hz64,hs64,hb64⟩:=in_64
 refine ACall.enter' func47 rfl ntmps47 rfl fun S hS=>?_
 unfold f_tagged_All at H
 refine .A 19 [] rfl trivial ?_
 refine .tok (i:=5) (e:=49) (sz:=12) rfl ?_
 refine .tok (i:=6) (e:=64) (sz:=4) rfl ?_
 refine .blockJoin2 (ι:=List Record×List Reject) (fun ⟨v5outj1,v6noj1⟩=>[(5,.tsl 12 (v5outj1.map Record.row) 0),(6,.tsl 4 (v6noj1.map Reject.row) 1)]) (fun ⟨v5outj1,v6noj1⟩=>⟨[],[⟨49,12,v5outj1.length,none⟩,⟨64,4,v6noj1.length,none⟩]⟩) (fun s=>f_tagged_All_j1 s.1 s.2=some r) ?_ ?_
 ·rintro ⟨v5outj1,v6noj1⟩ H
  replace H:f_tagged_All_j1 v5outj1 v6noj1=some r:=H
  unfold f_tagged_All_j1 at H
  refine .A 8 [] rfl trivial ?_
  refine .R func47 results47 rfl ?_
  cases H
  exact .m rfl (.tupL ⟨.tsl _ _ _,.tsl _ _ _,.rfl' _,trivial⟩)
 ·intro hj1 hj1x
  obtain ⟨n1,H⟩:=loop_some H
  refine .loop (ι:=Nat×(List UInt8×List Record×List Reject×Int)) (fun ⟨_,v0bl1,v5outl1,v6nol1,v7il1⟩=>[(0,.d (slOf 1 rB8 v0bl1)),(5,.tsl 12 (v5outl1.map Record.row) 0),(6,.tsl 4 (v6nol1.map Reject.row) 1),(7,.d (cI v7il1))]) (fun ⟨_,v0bl1,v5outl1,v6nol1,v7il1⟩=>⟨[],[⟨49,12,v5outl1.length,none⟩,⟨64,4,v6nol1.length,none⟩]⟩) (fun p=>iter (fun s=>f_tagged_All_l1 s.1 s.2.1 s.2.2.1 s.2.2.2) p.1 p.2=some r) (·.1) (n1,(v0b,([]:List Record),([]:List Reject),0)) H (.cons rfl (.rfl' _) (.cons rfl (.rfl' _) (.cons rfl (.rfl' _) (.cons rfl (.rfl' _) (.nil))))) rfl ?_
  rintro ⟨m1,v0bl1,v5outl1,v6nol1,v7il1⟩ HI ih1
  obtain ⟨n1,q1,hm1,H,HK1⟩:=iter_succ HI
  clear HI
  replace H:f_tagged_All_l1 v0bl1 v5outl1 v6nol1 v7il1=some q1:=H
  unfold f_tagged_All_l1 at H
  refine .A 7 [.i (v0bl1.length:Int)] rfl (s22.n rfl rfl) ?_
  refine .ite H rfl (fun H=>?_) (fun H=>?_)
  ·refine .A 9 [] rfl trivial ?_
   refine .ite H rfl (fun H=>?_) (fun H=>?_)
   ·refine .A 6 [] rfl trivial ?_
    refine .R func47 results47 rfl ?_
    cases H
    cases HK1
    exact .m rfl (.tupL ⟨.nil 12,.nil 4,.rfl' _,trivial⟩)
   ·obtain ⟨y1,hy1,H⟩:=bind_some' H
    refine .A 17 [.d (.tup [cI y1.1,cI y1.2])] rfl (g_call (en 57 rfl) rfl rfl (c_f_tagged_size (hy1))) ?_
    refine .ite H rfl (fun H=>?_) (fun H=>?_)
    ·refine .A 7 [] rfl trivial ?_
     refine .R func47 results47 rfl ?_
     cases H
     cases HK1
     exact .m rfl (.tupL ⟨.nil 12,.nil 4,.rfl' _,trivial⟩)
    ·obtain ⟨hk1,H⟩:=ck_some H
     obtain ⟨y2,hy2,H⟩:=bind_some' H
     refine .A 14 [.d (slOf 1 rB8 (v0bl1.take y1.1.toNat)),.d (.tup [.agg (Record.row y2.1),cI y2.2]),.r 0] rfl ⟨g_call (en 60 rfl) rfl rfl (c_f_tagged_Decode (hy2)),OpQ.g (q_slHL (l:=v0bl1) (row:=rB8) underlying22 hi5 hs5 rfl rfl rfl hk1)⟩ ?_
     refine .seqJoin (ι:=List Record×List Reject) (fun ⟨v5outj2,v6noj2⟩=>[(0,.d (slOf 1 rB8 v0bl1)),(5,.tsl 12 (v5outj2.map Record.row) 0),(6,.tsl 4 (v6noj2.map Reject.row) 1),(7,.d (cI v7il1)),(8,.d (cI y1.1))]) (fun ⟨v5outj2,v6noj2⟩=>⟨[.row 49 [.d (cI y2.1.source),.d (cI y2.1.serial),.d (cI y2.1.kind),.d (cS y2.1.a),.d (cS y2.1.b),.d (cI y2.1.start),.d (cI y2.1.units),.d (cI y2.1.call),.d (cI y2.1.part),.d (cB y2.1.last),.d (cI y2.1.trunk),.d (cB y2.1.inbound)]],[⟨49,12,v5outj2.length,none⟩,⟨64,4,v6noj2.length,none⟩]⟩) (fun s=>f_tagged_All_j2 v0bl1 v7il1 y1 s.1 s.2=some q1) ?_ ?_
     ·rintro ⟨v5outj2,v6noj2⟩ H
      replace H:f_tagged_All_j2 v0bl1 v7il1 y1 v5outj2 v6noj2=some q1:=H
      unfold f_tagged_All_j2 at H
      obtain ⟨hk2,H⟩:=ck_some H
      obtain ⟨hk3,H⟩:=ck_some H
      refine .A 12 [.d (slOf 1 rB8 (v0bl1.drop y1.1.toNat)),.i (v7il1+1)] rfl ⟨g_addI rfl rfl hk3,OpQ.g (q_slLL (l:=v0bl1) (row:=rB8) underlying22 hi5 hs5 rfl rfl rfl hk2)⟩ ?_
      cases H
      exact .t 0 2 (ih1 (n1,(v0bl1.drop y1.1.toNat,v5outj2,v6noj2,v7il1+1)) HK1 hm1) rfl rfl rfl rfl rfl hS rfl
     ·intro hj2
      refine .A 5 [] rfl trivial ?_
      refine .ite H rfl (fun H=>?_) (fun H=>?_)
      ·obtain ⟨hk4,H⟩:=ck_some H
       refine .A 9 [.d (.agg (Reject.row (⟨0,0,v7il1,y2.2⟩:Reject))),.d (slOf 4 Reject.row ([(⟨0,0,v7il1,y2.2⟩:Reject)]:List Reject)),.a 1 64 4 Reject.row (v6nol1++([(⟨0,0,v7il1,y2.2⟩:Reject)]:List Reject))] rfl ⟨s32.a rfl rfl rfl rfl hk4,g_buildSlice1 underlying32 hi64 hs64 hz64 rfl rfl rfl rfl rfl,OpQ.g (q_buildP pl_64 hi64 hz64 rfl rfl)⟩ ?_
       exact .z (hj2 (v5outl1,v6nol1++([(⟨0,0,v7il1,y2.2⟩:Reject)]:List Reject)) H) rfl rfl
      ·obtain ⟨hk5,H⟩:=ck_some H
       refine .A 7 [.d (slOf 12 Record.row ([y2.1]:List Record)),.a 0 49 12 Record.row (v5outl1++([y2.1]:List Record))] rfl ⟨s29.a rfl rfl rfl rfl hk5,g_buildSlice1 underlying29 hi49 hs49 hz49 rfl rfl rfl rfl rfl⟩ ?_
       exact .z (hj2 (v5outl1++([y2.1]:List Record),v6nol1) H) rfl rfl
  ·refine .A 1 [] rfl trivial ?_
   obtain ⟨q0,H9,hq0⟩:=map_some' H; clear H; cases hq0
   cases HK1
   have H:=H9
   exact .z (hj1x (v5outl1,v6nol1) H) rfl rfl
theorem c_f_packed_Decimal {v0b:List UInt8} {r:Int×Int} (H:f_packed_Decimal v0b=some r):ACall prog 135 [slOf 1 rB8 v0b] (·=.tup [cI r.1,cI r.2]):=by
 refine ACall.enter' func135 rfl ntmps135 rfl fun S hS=>?_
 unfold f_packed_Decimal at H
 refine .A 17 [.i (v0b.length:Int),.i (v0b.length:Int)] rfl ⟨rfl,rfl,fun hg=>s22.n rfl rfl,rfl,s22.n rfl rfl⟩ ?_
 refine .ite H rfl (fun H=>?_) (fun H=>?_)
 ·refine .A 5 [] rfl trivial ?_
  refine .R func135 results135 rfl ?_
  cases H
  exact .m rfl (.tupD rfl)
 ·refine .A 13 [.i (v0b.length:Int)] rfl (s22.n rfl rfl) ?_
  obtain ⟨n1,H⟩:=loop_some H
  refine .loop (ι:=Nat×(Int×Int)) (fun ⟨_,v4nl1,v17l1⟩=>[(4,.d (cI v4nl1)),(15,.d (slOf 1 rB8 v0b)),(16,.d (cI (v0b.length:Int))),(17,.d (cI v17l1))]) (fun ⟨_,v4nl1,v17l1⟩=>⟨[],[]⟩) (fun p=>iter (fun s=>f_packed_Decimal_l1 v0b s.1 s.2) p.1 p.2=some r) (·.1) (n1,(0,0)) H (.cons rfl (.rfl' _) (.cons rfl (.rfl' _) (.cons rfl (.rfl' _) (.cons rfl (.rfl' _) (.nil))))) rfl ?_
  rintro ⟨m1,v4nl1,v17l1⟩ HI ih1
  obtain ⟨n1,q1,hm1,H,HK1⟩:=iter_succ HI
  clear HI
  replace H:f_packed_Decimal_l1 v0b v4nl1 v17l1=some q1:=H
  unfold f_packed_Decimal_l1 at H
  refine .A 5 [] rfl trivial ?_
  refine .ite H rfl (fun H=>?_) (fun H=>?_)
  ·obtain ⟨hk1,H⟩:=ck_some H
   obtain ⟨hk2,H⟩:=ck_some H
   refine .A 21 [.d (.ro (rB8 (nth v0b v17l1.toNat))),.c (u8shr (nth v0b v17l1.toNat) 4),.b (decide ((u8shr (nth v0b v17l1.toNat) 4) > 9)),.c ((nth v0b v17l1.toNat) &&& 15),.b (decide (((nth v0b v17l1.toNat) &&& 15) > 9))] rfl ⟨rfl,fun hg=>OpQ.g (q8_gtr (a:=(nth v0b v17l1.toNat) &&& 15) (b:=9) rfl rfl),rfl,fun hg=>OpQ.g (q8_and (a:=nth v0b v17l1.toNat) (b:=15) rfl rfl),rfl,OpQ.g (q8_gtr (a:=u8shr (nth v0b v17l1.toNat) 4) (b:=9) rfl rfl),OpQ.g (q8_shr (a:=nth v0b v17l1.toNat) (n:=4) rfl rfl hk2),s22.ix rfl rfl rfl hk1⟩ ?_
   refine .ite H rfl (fun H=>?_) (fun H=>?_)
   ·refine .A 5 [] rfl trivial ?_
    refine .R func135 results135 rfl ?_
    cases H
    cases HK1
    exact .m rfl (.tupD rfl)
   ·obtain ⟨hk3,H⟩:=ck_some H
    obtain ⟨hk4,H⟩:=ck_some H
    obtain ⟨hk5,H⟩:=ck_some H
    obtain ⟨hk6,H⟩:=ck_some H
    obtain ⟨hk7,H⟩:=ck_some H
    obtain ⟨hk8,H⟩:=ck_some H
    refine .A 20 [.i (100*v4nl1),.c (u8shr (nth v0b v17l1.toNat) 4),.i ((u8shr (nth v0b v17l1.toNat) 4).toNat:Int),.i (((u8shr (nth v0b v17l1.toNat) 4).toNat:Int)*10),.i ((100*v4nl1)+(((u8shr (nth v0b v17l1.toNat) 4).toNat:Int)*10)),.c ((nth v0b v17l1.toNat) &&& 15),.i (((nth v0b v17l1.toNat) &&& 15).toNat:Int),.i (((100*v4nl1)+(((u8shr (nth v0b v17l1.toNat) 4).toNat:Int)*10))+(((nth v0b v17l1.toNat) &&& 15).toNat:Int)),.i (v17l1+1)] rfl ⟨g_addI rfl rfl hk8,g_addI rfl rfl hk7,OpQ.g (q_conv8i (a:=(nth v0b v17l1.toNat) &&& 15) underlying5 underlying3 rfl),OpQ.g (q8_and (a:=nth v0b v17l1.toNat) (b:=15) rfl rfl),g_addI rfl rfl hk6,g_mulI rfl rfl hk5,OpQ.g (q_conv8i (a:=u8shr (nth v0b v17l1.toNat) 4) underlying5 underlying3 rfl),OpQ.g (q8_shr (a:=nth v0b v17l1.toNat) (n:=4) rfl rfl hk4),g_mulI rfl rfl hk3⟩ ?_
    cases H
    exact .z (ih1 (n1,(((100*v4nl1)+(((u8shr (nth v0b v17l1.toNat) 4).toNat:Int)*10))+(((nth v0b v17l1.toNat) &&& 15).toNat:Int),v17l1+1)) HK1 hm1) rfl rfl
  ·refine .A 7 [] rfl trivial ?_
   refine .R func135 results135 rfl ?_
   cases H
   cases HK1
   exact .m rfl (.tupD rfl)
theorem c_f_packed_number {v0field:List UInt8} {r:(List UInt8)×Bool} (H:f_packed_number v0field=some r):ACall prog 136 [slOf 1 rB8 v0field] (·=.tup [cS r.1,cB r.2]):=by
 obtain ⟨i5,hi5,hz5,hs5,hb5⟩:=in_5
 refine ACall.enter' func136 rfl ntmps136 rfl fun S hS=>?_
 unfold f_packed_number at H
 obtain ⟨hk1,H⟩:=ck_some H
 obtain ⟨hk2,H⟩:=ck_some H
 refine .A 24 [.d (.ro (rB8 (nth v0field (Int.toNat (0))))),.c (u8shr (nth v0field (Int.toNat (0))) 4),.i ((u8shr (nth v0field (Int.toNat (0))) 4).toNat:Int)] rfl ⟨OpQ.g (q_conv8i (a:=u8shr (nth v0field (Int.toNat (0))) 4) underlying5 underlying3 rfl),OpQ.g (q8_shr (a:=nth v0field (Int.toNat (0))) (n:=4) rfl rfl hk2),s22.ix rfl rfl rfl hk1⟩ ?_
 refine .tok (i:=5) (e:=5) (sz:=1) rfl ?_
 obtain ⟨n1,H⟩:=loop_some H
 refine .loop (ι:=Nat×(List UInt8×Int)) (fun ⟨_,v5outl1,v13l1⟩=>[(0,.d (slOf 1 rB8 v0field)),(4,.d (cI ((u8shr (nth v0field (Int.toNat (0))) 4).toNat:Int))),(5,.tsl 1 (v5outl1.map rB8) 0),(13,.d (cI v13l1))]) (fun ⟨_,v5outl1,v13l1⟩=>⟨[],[⟨5,1,v5outl1.length,none⟩]⟩) (fun p=>iter (fun s=>f_packed_number_l1 v0field s.1 s.2) p.1 p.2=some r) (·.1) (n1,(([]:List UInt8),0)) H (.cons rfl (.rfl' _) (.cons rfl (.rfl' _) (.cons rfl (.rfl' _) (.cons rfl (.rfl' _) (.nil))))) rfl ?_
 rintro ⟨m1,v5outl1,v13l1⟩ HI ih1
 obtain ⟨n1,q1,hm1,H,HK1⟩:=iter_succ HI
 clear HI
 replace H:f_packed_number_l1 v0field v5outl1 v13l1=some q1:=H
 unfold f_packed_number_l1 at H
 refine .A 5 [] rfl trivial ?_
 refine .ite H rfl (fun H=>?_) (fun H=>?_)
 ·obtain ⟨hk3,H⟩:=ck_some H
  obtain ⟨hk4,H⟩:=ck_some H
  obtain ⟨hk5,H⟩:=ck_some H
  obtain ⟨hk6,H⟩:=ck_some H
  refine .A 19 [.i (v13l1+1),.i (Int.tdiv (v13l1+1) 2),.d (.ro (rB8 (nth v0field (Int.tdiv (v13l1+1) 2).toNat))),.c (u8shr (nth v0field (Int.tdiv (v13l1+1) 2).toNat) 4)] rfl ⟨OpQ.g (q8_shr (a:=nth v0field (Int.tdiv (v13l1+1) 2).toNat) (n:=4) rfl rfl hk6),s22.ix rfl rfl rfl hk5,OpQ.g (q_quoT rfl rfl hk4),g_addI rfl rfl hk3⟩ ?_
  refine .seqJoin (ι:=UInt8) (fun v7digitj1=>[(0,.d (slOf 1 rB8 v0field)),(4,.d (cI ((u8shr (nth v0field (Int.toNat (0))) 4).toNat:Int))),(5,.tsl 1 (v5outl1.map rB8) 0),(6,.d (cI v13l1)),(7,.d (cU8 v7digitj1)),(13,.d (cI v13l1))]) (fun v7digitj1=>⟨[],[⟨5,1,v5outl1.length,none⟩]⟩) (fun s=>f_packed_number_j1 v0field v5outl1 v13l1 s=some q1) ?_ ?_
  ·rintro v7digitj1 H
   replace H:f_packed_number_j1 v0field v5outl1 v13l1 v7digitj1=some q1:=H
   unfold f_packed_number_j1 at H
   refine .A 12 [.b (decide (v7digitj1≤9))] rfl ⟨rfl,fun hg=>OpQ.g (q8_leq (a:=v7digitj1) (b:=9) rfl rfl),rfl⟩ ?_
   refine .ite H rfl (fun H=>?_) (fun H=>?_)
   ·obtain ⟨hk7,H⟩:=ck_some H
    obtain ⟨hk8,H⟩:=ck_some H
    refine .A 14 [.c (48+v7digitj1),.d (slOf 1 rB8 ([48+v7digitj1]:List UInt8)),.a 0 5 1 rB8 (v5outl1++([48+v7digitj1]:List UInt8)),.i (v13l1+1)] rfl ⟨g_addI rfl rfl hk8,s22.a rfl rfl rfl rfl hk7,g_buildSlice1 underlying22 hi5 hs5 hz5 rfl rfl rfl rfl rfl,OpQ.g (q8_add (a:=48) (b:=v7digitj1) rfl rfl)⟩ ?_
    cases H
    exact .z (ih1 (n1,(v5outl1++([48+v7digitj1]:List UInt8),v13l1+1)) HK1 hm1) rfl rfl
   ·refine .A 11 [.b (v7digitj1 != 0)] rfl ⟨rfl,fun hg=>OpQ.g (q8_neq (a:=v7digitj1) (b:=0) rfl rfl),rfl⟩ ?_
    refine .ite H rfl (fun H=>?_) (fun H=>?_)
    ·refine .A 5 [] rfl trivial ?_
     refine .R func136 results136 rfl ?_
     cases H
     cases HK1
     exact .m rfl (.tupD rfl)
    ·obtain ⟨hk9,H⟩:=ck_some H
     refine .A 7 [.i (v13l1+1)] rfl (g_addI rfl rfl hk9) ?_
     cases H
     exact .z (ih1 (n1,(v5outl1,v13l1+1)) HK1 hm1) rfl rfl
  ·intro hj1
   obtain ⟨hk10,H⟩:=ck_some H
   refine .A 6 [.i (Int.tmod v13l1 2)] rfl (OpQ.g (q_remT rfl rfl hk10)) ?_
   refine .ite H rfl (fun H=>?_) (fun H=>?_)
   ·obtain ⟨hk11,H⟩:=ck_some H
    obtain ⟨hk12,H⟩:=ck_some H
    refine .A 9 [.i (Int.tdiv v13l1 2),.d (.ro (rB8 (nth v0field (Int.tdiv v13l1 2).toNat))),.c ((nth v0field (Int.tdiv v13l1 2).toNat) &&& 15)] rfl ⟨OpQ.g (q8_and (a:=nth v0field (Int.tdiv v13l1 2).toNat) (b:=15) rfl rfl),s22.ix rfl rfl rfl hk12,OpQ.g (q_quoT rfl rfl hk11)⟩ ?_
    exact .z (hj1 ((nth v0field (Int.tdiv v13l1 2).toNat) &&& 15) H) rfl rfl
   ·refine .A 1 [] rfl trivial ?_
    exact .z (hj1 (u8shr (nth v0field (Int.tdiv (v13l1+1) 2).toNat) 4) H) rfl rfl
 ·refine .A 8 [.s v5outl1] rfl (OpQ.g (q_bytesStrL (a:=v5outl1) underlying22 underlying5 underlying9 rfl rfl)) ?_
  refine .R func136 results136 rfl ?_
  cases H
  cases HK1
  exact .m rfl (.tupD rfl)
theorem c_g_packed_reader_field {v1size:Int} {o0c0p:PackedReader} {r:(List UInt8)×PackedReader} (H:g_packed_reader_field v1size o0c0p=some r):ACallS prog 80 [.ref 0 0,.d (cI v1size)] ⟨[.row 118 [.d (slOf 1 rB8 o0c0p.b),.d (cB o0c0p.bad)]],[]⟩ (QE (.d (slOf 1 rB8 r.1)) ⟨[.row 118 [.d (slOf 1 rB8 r.2.b),.d (cB r.2.bad)]],[]⟩):=by
 obtain ⟨i5,hi5,hz5,hs5,hb5⟩:=in_5
 refine ACallS.keep ?_
 refine ACallS.enter func80 rfl ntmps80 rfl fun S hS=>?_
 unfold g_packed_reader_field at H
 obtain ⟨hk1,H⟩:=ck_some H
 obtain ⟨hk2,H⟩:=ck_some H
 refine .A 33 [.d (slOf 1 rB8 (o0c0p.b.take v1size.toNat)),.d (slOf 1 rB8 (o0c0p.b.drop v1size.toNat))] rfl ⟨OpQ.g (q_slLL (l:=o0c0p.b) (row:=rB8) underlying22 hi5 hs5 rfl rfl rfl hk2),OpQ.g (q_slHML (l:=o0c0p.b) (row:=rB8) underlying22 hi5 hs5 rfl rfl rfl rfl hk1)⟩ ?_
 refine .R func80 results80 rfl ?_
 cases H
 exact ⟨[0],[],rfl,rfl,rfl,rfl,rfl,rfl,rfl,rfl,.rfl' _⟩
set_option maxRecDepth 100000
set_option maxHeartbeats 1000000
theorem c_g_packed_reader_decimal {v1size:Int} {o0c0p:PackedReader} {r:Int×PackedReader} (H:g_packed_reader_decimal v1size o0c0p=some r):ACallS prog 113 [.ref 0 0,.d (cI v1size)] ⟨[.row 118 [.d (slOf 1 rB8 o0c0p.b),.d (cB o0c0p.bad)]],[]⟩ (QE (.d (cI r.1)) ⟨[.row 118 [.d (slOf 1 rB8 r.2.b),.d (cB r.2.bad)]],[]⟩):=by
 refine ACallS.keep ?_
 refine ACallS.enter func113 rfl ntmps113 rfl fun S hS=>?_
 unfold g_packed_reader_decimal at H
 obtain ⟨y1,hy1,H⟩:=bind_some' H
 refine .B 8 [] rfl trivial ?_
 refine .callF (en 61 rfl) rfl [0] [] (x:=.d (slOf 1 rB8 y1.1)) (st':=⟨[.row 118 [.d (slOf 1 rB8 y1.2.b),.d (cB y1.2.bad)]],[]⟩) rfl (c_g_packed_reader_field (hy1)) ⟨.rfl' _,.rfl' _,trivial⟩ rfl rfl rfl rfl rfl rfl ?_
 obtain ⟨y2,hy2,H⟩:=bind_some' H
 refine .A 27 [.d (.tup [cI y2.1,cI y2.2])] rfl ⟨rfl,rfl,g_call (en 62 rfl) rfl rfl (c_f_packed_Decimal (hy2))⟩ ?_
 refine .R func113 results113 rfl ?_
 cases H
 exact ⟨[0],[],rfl,rfl,rfl,rfl,rfl,rfl,rfl,rfl,.rfl' _⟩
theorem c_g_packed_reader_number {o0c0p:PackedReader} {r:(List UInt8)×PackedReader} (H:g_packed_reader_number o0c0p=some r):ACallS prog 114 [.ref 0 0] ⟨[.row 118 [.d (slOf 1 rB8 o0c0p.b),.d (cB o0c0p.bad)]],[]⟩ (QE (.d (cS r.1)) ⟨[.row 118 [.d (slOf 1 rB8 r.2.b),.d (cB r.2.bad)]],[]⟩):=by
 refine ACallS.keep ?_
 refine ACallS.enter func114 rfl ntmps114 rfl fun S hS=>?_
 unfold g_packed_reader_number at H
 obtain ⟨y1,hy1,H⟩:=bind_some' H
 refine .B 7 [] rfl trivial ?_
 refine .callF (en 61 rfl) rfl [0] [] (x:=.d (slOf 1 rB8 y1.1)) (st':=⟨[.row 118 [.d (slOf 1 rB8 y1.2.b),.d (cB y1.2.bad)]],[]⟩) rfl (c_g_packed_reader_field (hy1)) ⟨.rfl' _,.rfl' _,trivial⟩ rfl rfl rfl rfl rfl rfl ?_
 obtain ⟨y2,hy2,H⟩:=bind_some' H
 refine .A 27 [.d (.tup [cS y2.1,cB y2.2])] rfl ⟨rfl,rfl,g_call (en 63 rfl) rfl rfl (c_f_packed_number (hy2))⟩ ?_
 refine .R func114 results114 rfl ?_
 cases H
 exact ⟨[0],[],rfl,rfl,rfl,rfl,rfl,rfl,rfl,rfl,.rfl' _⟩
theorem c_f_packed_Decode {v0:List UInt8} {r:Record×Int} (H:f_packed_Decode v0=some r):ACall prog 79 [slOf 1 rB8 v0] (·=.tup [.agg (Record.row r.1),cI r.2]):=by
 obtain ⟨i5,hi5,hz5,hs5,hb5⟩:=in_5
 obtain ⟨i49,hi49,hz49,hs49,hb49⟩:=in_49
 obtain ⟨i118,hi118,hz118,hs118,hb118⟩:=in_118
 refine ACall.enter' func79 rfl ntmps79 rfl fun S hS=>?_
 unfold f_packed_Decode at H
 refine .A 14 [.r 0,.i (v0.length:Int)] rfl (s22.n rfl rfl) ?_
 refine .ite H rfl (fun H=>?_) (fun H=>?_)
 ·refine .A 6 [.d (.agg (Record.row (⟨0,0,0,([]:List UInt8),([]:List UInt8),0,0,0,0,false,0,false⟩:Record)))] rfl (OpQ.g (q_buildP pl_49 hi49 hz49 rfl rfl)) ?_
  refine .R func79 results79 rfl ?_
  cases H
  exact .m rfl (.tupD rfl)
 ·refine .A 7 [.i (v0.length:Int)] rfl (s22.n rfl rfl) ?_
  refine .ite H rfl (fun H=>?_) (fun H=>?_)
  ·refine .A 6 [.d (.agg (Record.row (⟨0,0,0,([]:List UInt8),([]:List UInt8),0,0,0,0,false,0,false⟩:Record)))] rfl (OpQ.g (q_buildP pl_49 hi49 hz49 rfl rfl)) ?_
   refine .R func79 results79 rfl ?_
   cases H
   exact .m rfl (.tupD rfl)
  ·obtain ⟨hk1,H⟩:=ck_some H
   obtain ⟨y1,hy1,H⟩:=bind_some' H
   obtain ⟨hk2,H⟩:=ck_some H
   refine .A 12 [.p 8,.d (slOf 1 rB8 (v0.take ((44:Int)).toNat)),.c y1,.d (.ro (rB8 (nth v0 (Int.toNat (44))))),.b (y1 != (nth v0 (Int.toNat (44))))] rfl ⟨OpQ.g (q8_neq (a:=y1) (b:=nth v0 (Int.toNat (44))) rfl rfl),s22.ix rfl rfl rfl hk2,g_call (en 23 rfl) rfl rfl (c_f_packed_sum (hy1)),OpQ.g (q_slHL (l:=v0) (row:=rB8) underlying22 hi5 hs5 rfl rfl rfl hk1),(show drawB _ _=true by kernel_rfl)⟩ ?_
   refine .ite H rfl (fun H=>?_) (fun H=>?_)
   ·refine .A 6 [.d (.agg (Record.row (⟨0,0,0,([]:List UInt8),([]:List UInt8),0,0,0,0,false,0,false⟩:Record)))] rfl (OpQ.g (q_buildP pl_49 hi49 hz49 rfl rfl)) ?_
    refine .R func79 results79 rfl ?_
    cases H
    exact .m rfl (.tupD rfl)
   ·obtain ⟨y2,hy2,H⟩:=bind_some' H
    refine .B 16 [.d (.agg (PackedReader.row (⟨v0,false⟩:PackedReader))),.r 1,.r 2] rfl (OpQ.g (q_buildP pl_118 hi118 hz118 rfl rfl)) ?_
    refine .callF (en 64 rfl) rfl [1] [] (x:=.d (cI y2.1)) (st':=⟨[.row 49 [.d (cI 0),.d (cI 0),.d (cI 0),.d (cS ([]:List UInt8)),.d (cS ([]:List UInt8)),.d (cI 0),.d (cI 0),.d (cI 0),.d (cI 0),.d (cB false),.d (cI 0),.d (cB false)],.row 118 [.d (slOf 1 rB8 y2.2.b),.d (cB y2.2.bad)],.row 49 [.d (cI 0),.d (cI 0),.d (cI 0),.d (cS ([]:List UInt8)),.d (cS ([]:List UInt8)),.d (cI 0),.d (cI 0),.d (cI 0),.d (cI 0),.d (cB false),.d (cI 0),.d (cB false)]],[]⟩) rfl (c_g_packed_reader_decimal (hy2)) ⟨.rfl' _,.rfl' _,trivial⟩ rfl rfl rfl rfl rfl rfl ?_
    obtain ⟨y3,hy3,H⟩:=bind_some' H
    refine .B 6 [] rfl trivial ?_
    refine .callF (en 64 rfl) rfl [1] [] (x:=.d (cI y3.1)) (st':=⟨[.row 49 [.d (cI 0),.d (cI 0),.d (cI 0),.d (cS ([]:List UInt8)),.d (cS ([]:List UInt8)),.d (cI 0),.d (cI 0),.d (cI 0),.d (cI 0),.d (cB false),.d (cI 0),.d (cB false)],.row 118 [.d (slOf 1 rB8 y3.2.b),.d (cB y3.2.bad)],.row 49 [.d (cI y2.1),.d (cI 0),.d (cI 0),.d (cS ([]:List UInt8)),.d (cS ([]:List UInt8)),.d (cI 0),.d (cI 0),.d (cI 0),.d (cI 0),.d (cB false),.d (cI 0),.d (cB false)]],[]⟩) rfl (c_g_packed_reader_decimal (hy3)) ⟨.rfl' _,.rfl' _,trivial⟩ rfl rfl rfl rfl rfl rfl ?_
    obtain ⟨y4,hy4,H⟩:=bind_some' H
    refine .B 6 [] rfl trivial ?_
    refine .callF (en 61 rfl) rfl [1] [] (x:=.d (slOf 1 rB8 y4.1)) (st':=⟨[.row 49 [.d (cI 0),.d (cI 0),.d (cI 0),.d (cS ([]:List UInt8)),.d (cS ([]:List UInt8)),.d (cI 0),.d (cI 0),.d (cI 0),.d (cI 0),.d (cB false),.d (cI 0),.d (cB false)],.row 118 [.d (slOf 1 rB8 y4.2.b),.d (cB y4.2.bad)],.row 49 [.d (cI y2.1),.d (cI y3.1),.d (cI 0),.d (cS ([]:List UInt8)),.d (cS ([]:List UInt8)),.d (cI 0),.d (cI 0),.d (cI 0),.d (cI 0),.d (cB false),.d (cI 0),.d (cB false)]],[]⟩) rfl (c_g_packed_reader_field (hy4)) ⟨.rfl' _,.rfl' _,trivial⟩ rfl rfl rfl rfl rfl rfl ?_
    obtain ⟨hk3,H⟩:=ck_some H
    obtain ⟨hk4,H⟩:=ck_some H
    obtain ⟨y5,hy5,H⟩:=bind_some' H
    refine .B 25 [.d (.ro (rB8 (nth y4.1 (Int.toNat (0))))),.c (u8shr (nth y4.1 (Int.toNat (0))) 4),.i ((u8shr (nth y4.1 (Int.toNat (0))) 4).toNat:Int),.c ((nth y4.1 (Int.toNat (0))) &&& 1),.b (((nth y4.1 (Int.toNat (0))) &&& 1) != 0),.c ((nth y4.1 (Int.toNat (0))) &&& 2),.b (((nth y4.1 (Int.toNat (0))) &&& 2) != 0)] rfl ⟨OpQ.g (q8_neq (a:=(nth y4.1 (Int.toNat (0))) &&& 2) (b:=0) rfl rfl),OpQ.g (q8_and (a:=nth y4.1 (Int.toNat (0))) (b:=2) rfl rfl),OpQ.g (q8_neq (a:=(nth y4.1 (Int.toNat (0))) &&& 1) (b:=0) rfl rfl),OpQ.g (q8_and (a:=nth y4.1 (Int.toNat (0))) (b:=1) rfl rfl),OpQ.g (q_conv8i (a:=u8shr (nth y4.1 (Int.toNat (0))) 4) underlying5 underlying3 rfl),OpQ.g (q8_shr (a:=nth y4.1 (Int.toNat (0))) (n:=4) rfl rfl hk4),s22.ix rfl rfl rfl hk3⟩ ?_
    refine .callF (en 65 rfl) rfl [1] [] (x:=.d (cS y5.1)) (st':=⟨[.row 49 [.d (cI 0),.d (cI 0),.d (cI 0),.d (cS ([]:List UInt8)),.d (cS ([]:List UInt8)),.d (cI 0),.d (cI 0),.d (cI 0),.d (cI 0),.d (cB false),.d (cI 0),.d (cB false)],.row 118 [.d (slOf 1 rB8 y5.2.b),.d (cB y5.2.bad)],.row 49 [.d (cI y2.1),.d (cI y3.1),.d (cI ((u8shr (nth y4.1 (Int.toNat (0))) 4).toNat:Int)),.d (cS ([]:List UInt8)),.d (cS ([]:List UInt8)),.d (cI 0),.d (cI 0),.d (cI 0),.d (cI 0),.d (cB (((nth y4.1 (Int.toNat (0))) &&& 1) != 0)),.d (cI 0),.d (cB (((nth y4.1 (Int.toNat (0))) &&& 2) != 0))]],[]⟩) rfl (c_g_packed_reader_number (hy5)) ⟨.rfl' _,trivial⟩ rfl rfl rfl rfl rfl rfl ?_
    obtain ⟨y6,hy6,H⟩:=bind_some' H
    refine .B 6 [] rfl trivial ?_
    refine .callF (en 65 rfl) rfl [1] [] (x:=.d (cS y6.1)) (st':=⟨[.row 49 [.d (cI 0),.d (cI 0),.d (cI 0),.d (cS ([]:List UInt8)),.d (cS ([]:List UInt8)),.d (cI 0),.d (cI 0),.d (cI 0),.d (cI 0),.d (cB false),.d (cI 0),.d (cB false)],.row 118 [.d (slOf 1 rB8 y6.2.b),.d (cB y6.2.bad)],.row 49 [.d (cI y2.1),.d (cI y3.1),.d (cI ((u8shr (nth y4.1 (Int.toNat (0))) 4).toNat:Int)),.d (cS y5.1),.d (cS ([]:List UInt8)),.d (cI 0),.d (cI 0),.d (cI 0),.d (cI 0),.d (cB (((nth y4.1 (Int.toNat (0))) &&& 1) != 0)),.d (cI 0),.d (cB (((nth y4.1 (Int.toNat (0))) &&& 2) != 0))]],[]⟩) rfl (c_g_packed_reader_number (hy6)) ⟨.rfl' _,trivial⟩ rfl rfl rfl rfl rfl rfl ?_
    obtain ⟨y7,hy7,H⟩:=bind_some' H
    refine .B 6 [] rfl trivial ?_
    refine .callF (en 64 rfl) rfl [1] [] (x:=.d (cI y7.1)) (st':=⟨[.row 49 [.d (cI 0),.d (cI 0),.d (cI 0),.d (cS ([]:List UInt8)),.d (cS ([]:List UInt8)),.d (cI 0),.d (cI 0),.d (cI 0),.d (cI 0),.d (cB false),.d (cI 0),.d (cB false)],.row 118 [.d (slOf 1 rB8 y7.2.b),.d (cB y7.2.bad)],.row 49 [.d (cI y2.1),.d (cI y3.1),.d (cI ((u8shr (nth y4.1 (Int.toNat (0))) 4).toNat:Int)),.d (cS y5.1),.d (cS y6.1),.d (cI 0),.d (cI 0),.d (cI 0),.d (cI 0),.d (cB (((nth y4.1 (Int.toNat (0))) &&& 1) != 0)),.d (cI 0),.d (cB (((nth y4.1 (Int.toNat (0))) &&& 2) != 0))]],[]⟩) rfl (c_g_packed_reader_decimal (hy7)) ⟨.rfl' _,.rfl' _,trivial⟩ rfl rfl rfl rfl rfl rfl ?_
    obtain ⟨y8,hy8,H⟩:=bind_some' H
    refine .B 6 [] rfl trivial ?_
    refine .callF (en 64 rfl) rfl [1] [] (x:=.d (cI y8.1)) (st':=⟨[.row 49 [.d (cI 0),.d (cI 0),.d (cI 0),.d (cS ([]:List UInt8)),.d (cS ([]:List UInt8)),.d (cI 0),.d (cI 0),.d (cI 0),.d (cI 0),.d (cB false),.d (cI 0),.d (cB false)],.row 118 [.d (slOf 1 rB8 y8.2.b),.d (cB y8.2.bad)],.row 49 [.d (cI y2.1),.d (cI y3.1),.d (cI ((u8shr (nth y4.1 (Int.toNat (0))) 4).toNat:Int)),.d (cS y5.1),.d (cS y6.1),.d (cI y7.1),.d (cI 0),.d (cI 0),.d (cI 0),.d (cB (((nth y4.1 (Int.toNat (0))) &&& 1) != 0)),.d (cI 0),.d (cB (((nth y4.1 (Int.toNat (0))) &&& 2) != 0))]],[]⟩) rfl (c_g_packed_reader_decimal (hy8)) ⟨.rfl' _,.rfl' _,trivial⟩ rfl rfl rfl rfl rfl rfl ?_
    obtain ⟨y9,hy9,H⟩:=bind_some' H
    refine .B 6 [] rfl trivial ?_
    refine .callF (en 64 rfl) rfl [1] [] (x:=.d (cI y9.1)) (st':=⟨[.row 49 [.d (cI 0),.d (cI 0),.d (cI 0),.d (cS ([]:List UInt8)),.d (cS ([]:List UInt8)),.d (cI 0),.d (cI 0),.d (cI 0),.d (cI 0),.d (cB false),.d (cI 0),.d (cB false)],.row 118 [.d (slOf 1 rB8 y9.2.b),.d (cB y9.2.bad)],.row 49 [.d (cI y2.1),.d (cI y3.1),.d (cI ((u8shr (nth y4.1 (Int.toNat (0))) 4).toNat:Int)),.d (cS y5.1),.d (cS y6.1),.d (cI y7.1),.d (cI y8.1),.d (cI 0),.d (cI 0),.d (cB (((nth y4.1 (Int.toNat (0))) &&& 1) != 0)),.d (cI 0),.d (cB (((nth y4.1 (Int.toNat (0))) &&& 2) != 0))]],[]⟩) rfl (c_g_packed_reader_decimal (hy9)) ⟨.rfl' _,.rfl' _,trivial⟩ rfl rfl rfl rfl rfl rfl ?_
    obtain ⟨y10,hy10,H⟩:=bind_some' H
    refine .B 6 [] rfl trivial ?_
    refine .callF (en 64 rfl) rfl [1] [] (x:=.d (cI y10.1)) (st':=⟨[.row 49 [.d (cI 0),.d (cI 0),.d (cI 0),.d (cS ([]:List UInt8)),.d (cS ([]:List UInt8)),.d (cI 0),.d (cI 0),.d (cI 0),.d (cI 0),.d (cB false),.d (cI 0),.d (cB false)],.row 118 [.d (slOf 1 rB8 y10.2.b),.d (cB y10.2.bad)],.row 49 [.d (cI y2.1),.d (cI y3.1),.d (cI ((u8shr (nth y4.1 (Int.toNat (0))) 4).toNat:Int)),.d (cS y5.1),.d (cS y6.1),.d (cI y7.1),.d (cI y8.1),.d (cI y9.1),.d (cI 0),.d (cB (((nth y4.1 (Int.toNat (0))) &&& 1) != 0)),.d (cI 0),.d (cB (((nth y4.1 (Int.toNat (0))) &&& 2) != 0))]],[]⟩) rfl (c_g_packed_reader_decimal (hy10)) ⟨.rfl' _,.rfl' _,trivial⟩ rfl rfl rfl rfl rfl rfl ?_
    obtain ⟨y11,hy11,H⟩:=bind_some' H
    refine .B 6 [] rfl trivial ?_
    refine .callF (en 64 rfl) rfl [1] [] (x:=.d (cI y11.1)) (st':=⟨[.row 49 [.d (cI 0),.d (cI 0),.d (cI 0),.d (cS ([]:List UInt8)),.d (cS ([]:List UInt8)),.d (cI 0),.d (cI 0),.d (cI 0),.d (cI 0),.d (cB false),.d (cI 0),.d (cB false)],.row 118 [.d (slOf 1 rB8 y11.2.b),.d (cB y11.2.bad)],.row 49 [.d (cI y2.1),.d (cI y3.1),.d (cI ((u8shr (nth y4.1 (Int.toNat (0))) 4).toNat:Int)),.d (cS y5.1),.d (cS y6.1),.d (cI y7.1),.d (cI y8.1),.d (cI y9.1),.d (cI y10.1),.d (cB (((nth y4.1 (Int.toNat (0))) &&& 1) != 0)),.d (cI 0),.d (cB (((nth y4.1 (Int.toNat (0))) &&& 2) != 0))]],[]⟩) rfl (c_g_packed_reader_decimal (hy11)) ⟨.rfl' _,.rfl' _,trivial⟩ rfl rfl rfl rfl rfl rfl ?_
    refine .A 16 [.c ((nth y4.1 (Int.toNat (0))) &&& 15),.b (decide (((nth y4.1 (Int.toNat (0))) &&& 15) > 3))] rfl ⟨rfl,fun hg=>OpQ.g (q8_gtr (a:=(nth y4.1 (Int.toNat (0))) &&& 15) (b:=3) rfl rfl),rfl,fun hg=>OpQ.g (q8_and (a:=nth y4.1 (Int.toNat (0))) (b:=15) rfl rfl),rfl⟩ ?_
    refine .ite H rfl (fun H=>?_) (fun H=>?_)
    ·refine .A 6 [.d (.agg (Record.row (⟨0,0,0,([]:List UInt8),([]:List UInt8),0,0,0,0,false,0,false⟩:Record)))] rfl (OpQ.g (q_buildP pl_49 hi49 hz49 rfl rfl)) ?_
     refine .R func79 results79 rfl ?_
     cases H
     exact .m rfl (.tupD rfl)
    ·obtain ⟨y12,hy12,H⟩:=bind_some' H
     refine .A 17 [.d (.tup [cS y12.1,cI y12.2])] rfl (g_call (en 9 rfl) rfl rfl (c_f_textual_Encode (hy12))) ?_
     refine .ite H rfl (fun H=>?_) (fun H=>?_)
     ·refine .A 7 [.d (.agg (Record.row (⟨0,0,0,([]:List UInt8),([]:List UInt8),0,0,0,0,false,0,false⟩:Record)))] rfl (OpQ.g (q_buildP pl_49 hi49 hz49 rfl rfl)) ?_
      refine .R func79 results79 rfl ?_
      cases H
      exact .m rfl (.tupD rfl)
     ·refine .A 7 [] rfl trivial ?_
      refine .R func79 results79 rfl ?_
      cases H
      exact .m rfl (.tupD rfl)
theorem c_f_packed_All {v0b:List UInt8} {r:(List Record)×(List Reject)×Int} (H:f_packed_All v0b=some r):ACall prog 48 [slOf 1 rB8 v0b] (·=.tup [slOf 12 Record.row r.1,slOf 4 Reject.row r.2.1,cI r.2.2]):=by
 obtain ⟨i49,hi49,hz49,hs49,hb49⟩:=in_49
 obtain ⟨i64,hi64,hz64,hs64,hb64⟩:=in_64
 obtain ⟨i118,hi118,hz118,hs118,hb118⟩:=in_118
 refine ACall.enter' func48 rfl ntmps48 rfl fun S hS=>?_
 unfold f_packed_All at H
 obtain ⟨hk1,H⟩:=ck_some H
 refine .A 14 [.i (v0b.length:Int),.i (Int.tmod (v0b.length:Int) 45)] rfl ⟨OpQ.g (q_remT rfl rfl hk1),s22.n rfl rfl⟩ ?_
 refine .ite H rfl (fun H=>?_) (fun H=>?_)
 ·refine .A 6 [] rfl trivial ?_
  refine .R func48 results48 rfl ?_
  cases H
  exact .m rfl (.tupL ⟨.nil 12,.nil 4,.rfl' _,trivial⟩)
 ·obtain ⟨hk2,H⟩:=ck_some H
  refine .A 9 [.i (v0b.length:Int),.i (Int.tdiv (v0b.length:Int) 45)] rfl ⟨OpQ.g (q_quoT rfl rfl hk2),s22.n rfl rfl⟩ ?_
  refine .ite H rfl (fun H=>?_) (fun H=>?_)
  ·refine .A 6 [] rfl trivial ?_
   refine .R func48 results48 rfl ?_
   cases H
   exact .m rfl (.tupL ⟨.nil 12,.nil 4,.rfl' _,trivial⟩)
  ·obtain ⟨hk3,H⟩:=ck_some H
   refine .A 24 [.d (.agg (PackedReader.row (⟨v0b,false⟩:PackedReader))),.r 0,.i (v0b.length:Int),.i (Int.tdiv (v0b.length:Int) 45)] rfl ⟨OpQ.g (q_quoT rfl rfl hk3),s22.n rfl rfl,OpQ.g (q_buildP pl_118 hi118 hz118 rfl rfl)⟩ ?_
   refine .tok (i:=5) (e:=49) (sz:=12) rfl ?_
   refine .tok (i:=6) (e:=64) (sz:=4) rfl ?_
   refine .blockJoin2 (ι:=List Record×List Reject×List UInt8×Bool) (fun ⟨v5outj1,v6noj1,o0c0j1,o0c1j1⟩=>[(5,.tsl 12 (v5outj1.map Record.row) 0),(6,.tsl 4 (v6noj1.map Reject.row) 1)]) (fun ⟨v5outj1,v6noj1,o0c0j1,o0c1j1⟩=>⟨[.row 118 [.d (slOf 1 rB8 o0c0j1),.d (cB o0c1j1)]],[⟨49,12,v5outj1.length,none⟩,⟨64,4,v6noj1.length,none⟩]⟩) (fun s=>f_packed_All_j1 s.1 s.2.1 s.2.2.1 s.2.2.2=some r) ?_ ?_
   ·rintro ⟨v5outj1,v6noj1,o0c0j1,o0c1j1⟩ H
    replace H:f_packed_All_j1 v5outj1 v6noj1 o0c0j1 o0c1j1=some r:=H
    unfold f_packed_All_j1 at H
    refine .A 8 [] rfl trivial ?_
    refine .R func48 results48 rfl ?_
    cases H
    exact .m rfl (.tupL ⟨.tsl _ _ _,.tsl _ _ _,.rfl' _,trivial⟩)
   ·intro hj1 hj1x
    obtain ⟨n1,H⟩:=loop_some H
    refine .loop (ι:=Nat×(List Record×List Reject×Int×List UInt8×Bool)) (fun ⟨_,v5outl1,v6nol1,v25l1,o0c0l1,o0c1l1⟩=>[(5,.tsl 12 (v5outl1.map Record.row) 0),(6,.tsl 4 (v6nol1.map Reject.row) 1),(7,.ref 0 0),(24,.d (cI (Int.tdiv (v0b.length:Int) 45))),(25,.d (cI v25l1))]) (fun ⟨_,v5outl1,v6nol1,v25l1,o0c0l1,o0c1l1⟩=>⟨[.row 118 [.d (slOf 1 rB8 o0c0l1),.d (cB o0c1l1)]],[⟨49,12,v5outl1.length,none⟩,⟨64,4,v6nol1.length,none⟩]⟩) (fun p=>iter (fun s=>f_packed_All_l1 v0b s.1 s.2.1 s.2.2.1 s.2.2.2.1 s.2.2.2.2) p.1 p.2=some r) (·.1) (n1,(([]:List Record),([]:List Reject),0,v0b,false)) H (.cons rfl (.rfl' _) (.cons rfl (.rfl' _) (.cons rfl (.rfl' _) (.cons rfl (.rfl' _) (.cons rfl (.rfl' _) (.nil)))))) rfl ?_
    rintro ⟨m1,v5outl1,v6nol1,v25l1,o0c0l1,o0c1l1⟩ HI ih1
    obtain ⟨n1,q1,hm1,H,HK1⟩:=iter_succ HI
    clear HI
    replace H:f_packed_All_l1 v0b v5outl1 v6nol1 v25l1 o0c0l1 o0c1l1=some q1:=H
    unfold f_packed_All_l1 at H
    refine .A 5 [] rfl trivial ?_
    refine .ite H rfl (fun H=>?_) (fun H=>?_)
    ·obtain ⟨y1,hy1,H⟩:=bind_some' H
     refine .B 11 [] rfl trivial ?_
     refine .callF (en 61 rfl) rfl [0] [] (x:=.d (slOf 1 rB8 y1.1)) (st':=⟨[.row 118 [.d (slOf 1 rB8 y1.2.b),.d (cB y1.2.bad)]],[⟨49,12,v5outl1.length,none⟩,⟨64,4,v6nol1.length,none⟩]⟩) rfl (c_g_packed_reader_field (hy1)) ⟨.rfl' _,.rfl' _,trivial⟩ rfl rfl rfl rfl rfl rfl ?_
     obtain ⟨y2,hy2,H⟩:=bind_some' H
     refine .A 14 [.d (.tup [.agg (Record.row y2.1),cI y2.2]),.r 1] rfl (g_call (en 66 rfl) rfl rfl (c_f_packed_Decode (hy2))) ?_
     refine .ite H rfl (fun H=>?_) (fun H=>?_)
     ·obtain ⟨hk4,H⟩:=ck_some H
      obtain ⟨hk5,H⟩:=ck_some H
      refine .A 15 [.d (.agg (Reject.row (⟨0,0,v25l1,y2.2⟩:Reject))),.d (slOf 4 Reject.row ([(⟨0,0,v25l1,y2.2⟩:Reject)]:List Reject)),.a 1 64 4 Reject.row (v6nol1++([(⟨0,0,v25l1,y2.2⟩:Reject)]:List Reject)),.i (v25l1+1)] rfl ⟨g_addI rfl rfl hk5,s32.a rfl rfl rfl rfl hk4,g_buildSlice1 underlying32 hi64 hs64 hz64 rfl rfl rfl rfl rfl,OpQ.g (q_buildP pl_64 hi64 hz64 rfl rfl)⟩ ?_
      cases H
      exact .t 1 2 (ih1 (n1,(v5outl1,v6nol1++([(⟨0,0,v25l1,y2.2⟩:Reject)]:List Reject),v25l1+1,y1.2.b,y1.2.bad)) HK1 hm1) rfl rfl rfl rfl rfl hS rfl
     ·obtain ⟨hk6,H⟩:=ck_some H
      obtain ⟨hk7,H⟩:=ck_some H
      refine .A 13 [.d (slOf 12 Record.row ([y2.1]:List Record)),.a 0 49 12 Record.row (v5outl1++([y2.1]:List Record)),.i (v25l1+1)] rfl ⟨g_addI rfl rfl hk7,s29.a rfl rfl rfl rfl hk6,g_buildSlice1 underlying29 hi49 hs49 hz49 rfl rfl rfl rfl rfl⟩ ?_
      cases H
      exact .t 1 2 (ih1 (n1,(v5outl1++([y2.1]:List Record),v6nol1,v25l1+1,y1.2.b,y1.2.bad)) HK1 hm1) rfl rfl rfl rfl rfl hS rfl
    ·refine .A 1 [] rfl trivial ?_
     obtain ⟨q0,H9,hq0⟩:=map_some' H; clear H; cases hq0
     cases HK1
     have H:=H9
     exact .z (hj1x (v5outl1,v6nol1,o0c0l1,o0c1l1) H) rfl rfl
theorem c_f_textual_Lines {v0s:List UInt8} {r:(List (List UInt8))×Int} (H:f_textual_Lines v0s=some r):ACall prog 81 [cS v0s] (·=.tup [slOf 1 rS r.1,cI r.2]):=by
 refine ACall.enter' func81 rfl ntmps81 rfl fun S hS=>?_
 unfold f_textual_Lines at H
 refine .A 11 [] rfl trivial ?_
 refine .ite H rfl (fun H=>?_) (fun H=>?_)
 ·refine .A 5 [] rfl trivial ?_
  refine .R func81 results81 rfl ?_
  cases H
  exact .m rfl (.tupL ⟨.nil 1,.rfl' _,trivial⟩)
 ·obtain ⟨y1,hy1,H⟩:=bind_some' H
  refine .A 17 [.d (.tup [cS y1.1,cB y1.2])] rfl (g_call (en 67 rfl) rfl rfl (c_x_CutSuffix (hy1))) ?_
  refine .ite H rfl (fun H=>?_) (fun H=>?_)
  ·refine .A 5 [] rfl trivial ?_
   refine .R func81 results81 rfl ?_
   cases H
   exact .m rfl (.tupL ⟨.nil 1,.rfl' _,trivial⟩)
  ·obtain ⟨y2,hy2,H⟩:=bind_some' H
   refine .A 14 [.d (slOf 1 rS y2),.i (y2.length:Int)] rfl ⟨s109.n rfl rfl,g_call (en 68 rfl) rfl rfl (c_x_Split (hy2))⟩ ?_
   refine .ite H rfl (fun H=>?_) (fun H=>?_)
   ·refine .A 5 [] rfl trivial ?_
    refine .R func81 results81 rfl ?_
    cases H
    exact .m rfl (.tupL ⟨.nil 1,.rfl' _,trivial⟩)
   ·refine .A 7 [] rfl trivial ?_
    refine .R func81 results81 rfl ?_
    cases H
    exact .m rfl (.tupD rfl)
theorem c_f_textual_numeral {v0s:List UInt8} {r:Int×Bool} (H:f_textual_numeral v0s=some r):ACall prog 140 [cS v0s] (·=.tup [cI r.1,cB r.2]):=by
 refine ACall.enter' func140 rfl ntmps140 rfl fun S hS=>?_
 unfold f_textual_numeral at H
 obtain ⟨hk1,H⟩:=ck_some H
 refine .B 22 [.i (v0s.length:Int),.c (nth v0s (Int.toNat (0))),.b ((nth v0s (Int.toNat (0)))==48)] rfl ⟨rfl,rfl,fun hg=>OpQ.g (q8_eql (a:=nth v0s (Int.toNat (0))) (b:=48) rfl rfl),rfl,fun hg=>OpQ.g (q_indexL (i:=0) underlying9 rfl rfl (hk1 hg)),rfl,rfl,rfl,fun hg=>OpQ.g (q_lenS underlying9 rfl),rfl⟩ ?_
 refine .guardG (env':=[(18,_),(20,_)]) rfl rfl rfl ⟨.inr (.inl rfl),⟨.inr (.inr ⟨_,_,rfl,rfl⟩),trivial⟩⟩ rfl (fun hg=>OpQ.g (q_pickAndB rfl rfl rfl)) ?_
 refine .A 2 [] rfl rfl ?_
 refine .ite H rfl (fun H=>?_) (fun H=>?_)
 ·refine .A 5 [] rfl trivial ?_
  refine .R func140 results140 rfl ?_
  cases H
  exact .m rfl (.tupD rfl)
 ·refine .A 12 [.v (.ref 0 0) ⟨[.raw (.stringIter ⟨v0s.toArray⟩ 0)],[]⟩] rfl (.e (v_range (l:=v0s) underlying9 rfl) rfl) ?_
  obtain ⟨n1,H⟩:=loop_some H
  refine .loop (ι:=Nat×(Int×Nat)) (fun ⟨_,v4nl1,o0c0l1⟩=>[(4,.d (cI v4nl1)),(24,.ref 0 0)]) (fun ⟨_,v4nl1,o0c0l1⟩=>⟨[.raw (.stringIter ⟨v0s.toArray⟩ o0c0l1)],[]⟩) (fun p=>iter (fun s=>f_textual_numeral_l1 v0s s.1 s.2) p.1 p.2=some r) (·.1) (n1,(0,0)) H (.cons rfl (.rfl' _) (.cons rfl (.rfl' _) (.nil))) rfl ?_
  rintro ⟨m1,v4nl1,o0c0l1⟩ HI ih1
  obtain ⟨n1,q1,hm1,H,HK1⟩:=iter_succ HI
  clear HI
  replace H:f_textual_numeral_l1 v0s v4nl1 o0c0l1=some q1:=H
  unfold f_textual_numeral_l1 at H
  refine .A 6 [.v (.d (nextD v0s o0c0l1)) ⟨[.raw (.stringIter ⟨v0s.toArray⟩ (nextP v0s o0c0l1))],[]⟩,.f 3 (.d (cB (decide (o0c0l1 < v0s.length))))] rfl ⟨OpQ.g (q_nextOk (l:=v0s) rfl),.e (v_next (l:=v0s) rfl rfl) rfl⟩ ?_
  refine .ite H rfl (fun H=>?_) (fun H=>?_)
  ·obtain ⟨hk2,H⟩:=ck_some H
   refine .A 17 [.f 13 (.d (cK .i32 ((runeAt v0s o0c0l1).1:Int)))] rfl ⟨rfl,rfl,OpQ.g (q_nextRune (l:=v0s) hk2 rfl)⟩ ?_
   refine .ite H rfl (fun H=>?_) (fun H=>?_)
   ·refine .A 5 [] rfl trivial ?_
    refine .R func140 results140 rfl ?_
    cases H
    cases HK1
    exact .m rfl (.tupD rfl)
   ·obtain ⟨hk3,H⟩:=ck_some H
    obtain ⟨hk4,H⟩:=ck_some H
    refine .A 11 [.i (10*v4nl1),.d (cK .i32 (IntKind.wrap .i32 (((runeAt v0s o0c0l1).1:Int) - 48))),.i (IntKind.wrap .i64 (IntKind.wrap .i32 (((runeAt v0s o0c0l1).1:Int) - 48))),.i ((10*v4nl1)+(IntKind.wrap .i64 (IntKind.wrap .i32 (((runeAt v0s o0c0l1).1:Int) - 48))))] rfl ⟨g_addI rfl rfl hk4,OpQ.g (q_conv underlying21 underlying3 rfl rfl),OpQ.g (q_sub rfl rfl rfl),g_mulI rfl rfl hk3⟩ ?_
    cases H
    exact .z (ih1 (n1,((10*v4nl1)+(IntKind.wrap .i64 (IntKind.wrap .i32 (((runeAt v0s o0c0l1).1:Int) - 48))),nextP v0s o0c0l1)) HK1 hm1) rfl rfl
  ·refine .A 7 [] rfl trivial ?_
   refine .R func140 results140 rfl ?_
   cases H
   cases HK1
   exact .m rfl (.tupD rfl)
theorem c_g_textual_reader_word {o0c0p:TextualReader} {r:(List UInt8)×TextualReader} (H:g_textual_reader_word o0c0p=some r):ACallS prog 117 [.ref 0 0] ⟨[.row 149 [.d (slOf 1 rS o0c0p.words),.d (cB o0c0p.bad)]],[]⟩ (QE (.d (cS r.1)) ⟨[.row 149 [.d (slOf 1 rS r.2.words),.d (cB r.2.bad)]],[]⟩):=by
 obtain ⟨i9,hi9,hz9,hs9,hb9⟩:=in_9
 refine ACallS.keep ?_
 refine ACallS.enter func117 rfl ntmps117 rfl fun S hS=>?_
 unfold g_textual_reader_word at H
 obtain ⟨hk1,H⟩:=ck_some H
 refine .A 23 [.i (o0c0p.words.length:Int),.d (.ro (rS (nth o0c0p.words (Int.toNat (0)))))] rfl ⟨rfl,rfl,rfl,fun hg=>s109.ix rfl rfl rfl (hk1 hg),rfl,rfl,rfl,rfl,s109.n rfl rfl⟩ ?_
 refine .ite H rfl (fun H=>?_) (fun H=>?_)
 ·refine .A 11 [] rfl trivial ?_
  refine .R func117 results117 rfl ?_
  cases H
  exact ⟨[0],[],rfl,rfl,rfl,rfl,rfl,rfl,rfl,rfl,.rfl' _⟩
 ·obtain ⟨hk2,H⟩:=ck_some H
  obtain ⟨hk3,H⟩:=ck_some H
  refine .A 28 [.d (.ro (rS (nth o0c0p.words (Int.toNat (0))))),.d (slOf 1 rS (o0c0p.words.drop ((1:Int)).toNat))] rfl ⟨OpQ.g (q_slLL (l:=o0c0p.words) (row:=rS) underlying109 hi9 hs9 rfl rfl rfl hk3),s109.ix rfl rfl rfl hk2⟩ ?_
  refine .R func117 results117 rfl ?_
  cases H
  exact ⟨[0],[],rfl,rfl,rfl,rfl,rfl,rfl,rfl,rfl,.rfl' _⟩
theorem c_g_textual_reader_number {o0c0p:TextualReader} {r:Int×TextualReader} (H:g_textual_reader_number o0c0p=some r):ACallS prog 119 [.ref 0 0] ⟨[.row 149 [.d (slOf 1 rS o0c0p.words),.d (cB o0c0p.bad)]],[]⟩ (QE (.d (cI r.1)) ⟨[.row 149 [.d (slOf 1 rS r.2.words),.d (cB r.2.bad)]],[]⟩):=by
 refine ACallS.keep ?_
 refine ACallS.enter func119 rfl ntmps119 rfl fun S hS=>?_
 unfold g_textual_reader_number at H
 obtain ⟨y1,hy1,H⟩:=bind_some' H
 refine .B 7 [] rfl trivial ?_
 refine .callF (en 69 rfl) rfl [0] [] (x:=.d (cS y1.1)) (st':=⟨[.row 149 [.d (slOf 1 rS y1.2.words),.d (cB y1.2.bad)]],[]⟩) rfl (c_g_textual_reader_word (hy1)) ⟨.rfl' _,trivial⟩ rfl rfl rfl rfl rfl rfl ?_
 obtain ⟨y2,hy2,H⟩:=bind_some' H
 refine .A 27 [.d (.tup [cI y2.1,cB y2.2])] rfl ⟨rfl,rfl,g_call (en 70 rfl) rfl rfl (c_f_textual_numeral (hy2))⟩ ?_
 refine .R func119 results119 rfl ?_
 cases H
 exact ⟨[0],[],rfl,rfl,rfl,rfl,rfl,rfl,rfl,rfl,.rfl' _⟩
theorem c_g_textual_reader_next {v1s:List UInt8} {o0c0p:TextualReader} {r:Bool×TextualReader} (H:g_textual_reader_next v1s o0c0p=some r):ACallS prog 120 [.ref 0 0,.d (cS v1s)] ⟨[.row 149 [.d (slOf 1 rS o0c0p.words),.d (cB o0c0p.bad)]],[]⟩ (QE (.d (cB r.1)) ⟨[.row 149 [.d (slOf 1 rS r.2.words),.d (cB r.2.bad)]],[]⟩):=by
 obtain ⟨i9,hi9,hz9,hs9,hb9⟩:=in_9
 refine ACallS.keep ?_
 refine ACallS.enter func120 rfl ntmps120 rfl fun S hS=>?_
 unfold g_textual_reader_next at H
 obtain ⟨hk1,H⟩:=ck_some H
 refine .A 24 [.i (o0c0p.words.length:Int),.d (.ro (rS (nth o0c0p.words (Int.toNat (0)))))] rfl ⟨rfl,rfl,rfl,rfl,fun hg=>s109.ix rfl rfl rfl (hk1 hg),rfl,rfl,rfl,rfl,s109.n rfl rfl⟩ ?_
 refine .ite H rfl (fun H=>?_) (fun H=>?_)
 ·refine .A 4 [] rfl trivial ?_
  refine .R func120 results120 rfl ?_
  cases H
  exact ⟨[0],[],rfl,rfl,rfl,rfl,rfl,rfl,rfl,rfl,.rfl' _⟩
 ·obtain ⟨hk2,H⟩:=ck_some H
  refine .A 17 [.d (slOf 1 rS (o0c0p.words.drop ((1:Int)).toNat))] rfl (OpQ.g (q_slLL (l:=o0c0p.words) (row:=rS) underlying109 hi9 hs9 rfl rfl rfl hk2)) ?_
  refine .R func120 results120 rfl ?_
  cases H
  exact ⟨[0],[],rfl,rfl,rfl,rfl,rfl,rfl,rfl,rfl,.rfl' _⟩
theorem c_f_textual_Decode {v0:List UInt8} {r:Record×Int} (H:f_textual_Decode v0=some r):ACall prog 82 [cS v0] (·=.tup [.agg (Record.row r.1),cI r.2]):=by
 obtain ⟨i49,hi49,hz49,hs49,hb49⟩:=in_49
 obtain ⟨i149,hi149,hz149,hs149,hb149⟩:=in_149
 refine ACall.enter' func82 rfl ntmps82 rfl fun S hS=>?_
 unfold f_textual_Decode at H
 obtain ⟨y1,hy1,H⟩:=bind_some' H
 obtain ⟨y2,hy2,H⟩:=bind_some' H
 refine .B 20 [.r 0,.d (slOf 1 rS y1),.d (.agg (TextualReader.row (⟨y1,false⟩:TextualReader))),.r 1,.r 2] rfl ⟨OpQ.g (q_buildP pl_149 hi149 hz149 rfl rfl),g_call (en 68 rfl) rfl rfl (c_x_Split (hy1))⟩ ?_
 refine .callF (en 69 rfl) rfl [1] [] (x:=.d (cS y2.1)) (st':=⟨[.row 49 [.d (cI 0),.d (cI 0),.d (cI 0),.d (cS ([]:List UInt8)),.d (cS ([]:List UInt8)),.d (cI 0),.d (cI 0),.d (cI 0),.d (cI 0),.d (cB false),.d (cI 0),.d (cB false)],.row 149 [.d (slOf 1 rS y2.2.words),.d (cB y2.2.bad)],.row 49 [.d (cI 0),.d (cI 0),.d (cI 0),.d (cS ([]:List UInt8)),.d (cS ([]:List UInt8)),.d (cI 0),.d (cI 0),.d (cI 0),.d (cI 0),.d (cB false),.d (cI 0),.d (cB false)]],[]⟩) rfl (c_g_textual_reader_word (hy2)) ⟨.rfl' _,trivial⟩ rfl rfl rfl rfl rfl rfl ?_
 obtain ⟨y3,hy3,H⟩:=bind_some' H
 obtain ⟨hk1,H⟩:=ck_some H
 obtain ⟨y4,hy4,H⟩:=bind_some' H
 refine .B 13 [.i y3,.i (1+y3)] rfl ⟨g_addI rfl rfl hk1,g_call (en 71 rfl) rfl rfl (c_x_Index (hy3))⟩ ?_
 refine .callF (en 72 rfl) rfl [1] [] (x:=.d (cI y4.1)) (st':=⟨[.row 49 [.d (cI 0),.d (cI 0),.d (cI 0),.d (cS ([]:List UInt8)),.d (cS ([]:List UInt8)),.d (cI 0),.d (cI 0),.d (cI 0),.d (cI 0),.d (cB false),.d (cI 0),.d (cB false)],.row 149 [.d (slOf 1 rS y4.2.words),.d (cB y4.2.bad)],.row 49 [.d (cI 0),.d (cI 0),.d (cI (1+y3)),.d (cS ([]:List UInt8)),.d (cS ([]:List UInt8)),.d (cI 0),.d (cI 0),.d (cI 0),.d (cI 0),.d (cB false),.d (cI 0),.d (cB false)]],[]⟩) rfl (c_g_textual_reader_number (hy4)) ⟨.rfl' _,trivial⟩ rfl rfl rfl rfl rfl rfl ?_
 obtain ⟨y5,hy5,H⟩:=bind_some' H
 refine .B 6 [] rfl trivial ?_
 refine .callF (en 72 rfl) rfl [1] [] (x:=.d (cI y5.1)) (st':=⟨[.row 49 [.d (cI 0),.d (cI 0),.d (cI 0),.d (cS ([]:List UInt8)),.d (cS ([]:List UInt8)),.d (cI 0),.d (cI 0),.d (cI 0),.d (cI 0),.d (cB false),.d (cI 0),.d (cB false)],.row 149 [.d (slOf 1 rS y5.2.words),.d (cB y5.2.bad)],.row 49 [.d (cI y4.1),.d (cI 0),.d (cI (1+y3)),.d (cS ([]:List UInt8)),.d (cS ([]:List UInt8)),.d (cI 0),.d (cI 0),.d (cI 0),.d (cI 0),.d (cB false),.d (cI 0),.d (cB false)]],[]⟩) rfl (c_g_textual_reader_number (hy5)) ⟨.rfl' _,trivial⟩ rfl rfl rfl rfl rfl rfl ?_
 obtain ⟨y6,hy6,H⟩:=bind_some' H
 refine .B 6 [] rfl trivial ?_
 refine .callF (en 69 rfl) rfl [1] [] (x:=.d (cS y6.1)) (st':=⟨[.row 49 [.d (cI 0),.d (cI 0),.d (cI 0),.d (cS ([]:List UInt8)),.d (cS ([]:List UInt8)),.d (cI 0),.d (cI 0),.d (cI 0),.d (cI 0),.d (cB false),.d (cI 0),.d (cB false)],.row 149 [.d (slOf 1 rS y6.2.words),.d (cB y6.2.bad)],.row 49 [.d (cI y4.1),.d (cI y5.1),.d (cI (1+y3)),.d (cS ([]:List UInt8)),.d (cS ([]:List UInt8)),.d (cI 0),.d (cI 0),.d (cI 0),.d (cI 0),.d (cB false),.d (cI 0),.d (cB false)]],[]⟩) rfl (c_g_textual_reader_word (hy6)) ⟨.rfl' _,trivial⟩ rfl rfl rfl rfl rfl rfl ?_
 obtain ⟨y7,hy7,H⟩:=bind_some' H
 refine .B 6 [] rfl trivial ?_
 refine .callF (en 69 rfl) rfl [1] [] (x:=.d (cS y7.1)) (st':=⟨[.row 49 [.d (cI 0),.d (cI 0),.d (cI 0),.d (cS ([]:List UInt8)),.d (cS ([]:List UInt8)),.d (cI 0),.d (cI 0),.d (cI 0),.d (cI 0),.d (cB false),.d (cI 0),.d (cB false)],.row 149 [.d (slOf 1 rS y7.2.words),.d (cB y7.2.bad)],.row 49 [.d (cI y4.1),.d (cI y5.1),.d (cI (1+y3)),.d (cS y6.1),.d (cS ([]:List UInt8)),.d (cI 0),.d (cI 0),.d (cI 0),.d (cI 0),.d (cB false),.d (cI 0),.d (cB false)]],[]⟩) rfl (c_g_textual_reader_word (hy7)) ⟨.rfl' _,trivial⟩ rfl rfl rfl rfl rfl rfl ?_
 obtain ⟨y8,hy8,H⟩:=bind_some' H
 refine .B 6 [] rfl trivial ?_
 refine .callF (en 72 rfl) rfl [1] [] (x:=.d (cI y8.1)) (st':=⟨[.row 49 [.d (cI 0),.d (cI 0),.d (cI 0),.d (cS ([]:List UInt8)),.d (cS ([]:List UInt8)),.d (cI 0),.d (cI 0),.d (cI 0),.d (cI 0),.d (cB false),.d (cI 0),.d (cB false)],.row 149 [.d (slOf 1 rS y8.2.words),.d (cB y8.2.bad)],.row 49 [.d (cI y4.1),.d (cI y5.1),.d (cI (1+y3)),.d (cS y6.1),.d (cS y7.1),.d (cI 0),.d (cI 0),.d (cI 0),.d (cI 0),.d (cB false),.d (cI 0),.d (cB false)]],[]⟩) rfl (c_g_textual_reader_number (hy8)) ⟨.rfl' _,trivial⟩ rfl rfl rfl rfl rfl rfl ?_
 obtain ⟨y9,hy9,H⟩:=bind_some' H
 refine .B 6 [] rfl trivial ?_
 refine .callF (en 72 rfl) rfl [1] [] (x:=.d (cI y9.1)) (st':=⟨[.row 49 [.d (cI 0),.d (cI 0),.d (cI 0),.d (cS ([]:List UInt8)),.d (cS ([]:List UInt8)),.d (cI 0),.d (cI 0),.d (cI 0),.d (cI 0),.d (cB false),.d (cI 0),.d (cB false)],.row 149 [.d (slOf 1 rS y9.2.words),.d (cB y9.2.bad)],.row 49 [.d (cI y4.1),.d (cI y5.1),.d (cI (1+y3)),.d (cS y6.1),.d (cS y7.1),.d (cI y8.1),.d (cI 0),.d (cI 0),.d (cI 0),.d (cB false),.d (cI 0),.d (cB false)]],[]⟩) rfl (c_g_textual_reader_number (hy9)) ⟨.rfl' _,trivial⟩ rfl rfl rfl rfl rfl rfl ?_
 refine .A 3 [] rfl trivial ?_
 refine .seqJoin (ι:=List UInt8) (fun o2c4j1=>[(0,.d (cS v0)),(2,.ref 0 0),(4,.ref 1 0),(5,.ref 2 0),(6,.d (cS y2.1))]) (fun o2c4j1=>⟨[.row 49 [.d (cI 0),.d (cI 0),.d (cI 0),.d (cS ([]:List UInt8)),.d (cS ([]:List UInt8)),.d (cI 0),.d (cI 0),.d (cI 0),.d (cI 0),.d (cB false),.d (cI 0),.d (cB false)],.row 149 [.d (slOf 1 rS y9.2.words),.d (cB y9.2.bad)],.row 49 [.d (cI y4.1),.d (cI y5.1),.d (cI (1+y3)),.d (cS y6.1),.d (cS o2c4j1),.d (cI y8.1),.d (cI y9.1),.d (cI 0),.d (cI 0),.d (cB false),.d (cI 0),.d (cB false)]],[]⟩) (fun s=>f_textual_Decode_j1 v0 y2 y3 y4 y5 y6 y8 y9 s=some r) ?_ ?_
 ·rintro o2c4j1 H
  replace H:f_textual_Decode_j1 v0 y2 y3 y4 y5 y6 y8 y9 o2c4j1=some r:=H
  unfold f_textual_Decode_j1 at H
  refine .seqJoin (ι:=List (List UInt8)×Bool×Int×Int×Bool) (fun ⟨o1c0j2,o1c1j2,o2c7j2,o2c8j2,o2c9j2⟩=>[(0,.d (cS v0)),(2,.ref 0 0),(4,.ref 1 0),(5,.ref 2 0),(6,.d (cS y2.1))]) (fun ⟨o1c0j2,o1c1j2,o2c7j2,o2c8j2,o2c9j2⟩=>⟨[.row 49 [.d (cI 0),.d (cI 0),.d (cI 0),.d (cS ([]:List UInt8)),.d (cS ([]:List UInt8)),.d (cI 0),.d (cI 0),.d (cI 0),.d (cI 0),.d (cB false),.d (cI 0),.d (cB false)],.row 149 [.d (slOf 1 rS o1c0j2),.d (cB o1c1j2)],.row 49 [.d (cI y4.1),.d (cI y5.1),.d (cI (1+y3)),.d (cS y6.1),.d (cS o2c4j1),.d (cI y8.1),.d (cI y9.1),.d (cI o2c7j2),.d (cI o2c8j2),.d (cB o2c9j2),.d (cI 0),.d (cB false)]],[]⟩) (fun s=>f_textual_Decode_j2 v0 y2 y3 y4 y5 y6 y8 y9 o2c4j1 s.1 s.2.1 s.2.2.1 s.2.2.2.1 s.2.2.2.2=some r) ?_ ?_
  ·rintro ⟨o1c0j2,o1c1j2,o2c7j2,o2c8j2,o2c9j2⟩ H
   replace H:f_textual_Decode_j2 v0 y2 y3 y4 y5 y6 y8 y9 o2c4j1 o1c0j2 o1c1j2 o2c7j2 o2c8j2 o2c9j2=some r:=H
   unfold f_textual_Decode_j2 at H
   refine .seqJoin (ι:=List (List UInt8)×Bool×Int×Bool) (fun ⟨o1c0j3,o1c1j3,o2c10j3,o2c11j3⟩=>[(0,.d (cS v0)),(2,.ref 0 0),(4,.ref 1 0),(5,.ref 2 0),(6,.d (cS y2.1))]) (fun ⟨o1c0j3,o1c1j3,o2c10j3,o2c11j3⟩=>⟨[.row 49 [.d (cI 0),.d (cI 0),.d (cI 0),.d (cS ([]:List UInt8)),.d (cS ([]:List UInt8)),.d (cI 0),.d (cI 0),.d (cI 0),.d (cI 0),.d (cB false),.d (cI 0),.d (cB false)],.row 149 [.d (slOf 1 rS o1c0j3),.d (cB o1c1j3)],.row 49 [.d (cI y4.1),.d (cI y5.1),.d (cI (1+y3)),.d (cS y6.1),.d (cS o2c4j1),.d (cI y8.1),.d (cI y9.1),.d (cI o2c7j2),.d (cI o2c8j2),.d (cB o2c9j2),.d (cI o2c10j3),.d (cB o2c11j3)]],[]⟩) (fun s=>f_textual_Decode_j3 v0 y2 y3 y4 y5 y6 y8 y9 o2c4j1 o2c7j2 o2c8j2 o2c9j2 s.1 s.2.1 s.2.2.1 s.2.2.2=some r) ?_ ?_
   ·rintro ⟨o1c0j3,o1c1j3,o2c10j3,o2c11j3⟩ H
    replace H:f_textual_Decode_j3 v0 y2 y3 y4 y5 y6 y8 y9 o2c4j1 o2c7j2 o2c8j2 o2c9j2 o1c0j3 o1c1j3 o2c10j3 o2c11j3=some r:=H
    unfold f_textual_Decode_j3 at H
    refine .A 26 [.i (y2.1.length:Int),.i (o1c0j3.length:Int)] rfl ⟨rfl,rfl,fun hg=>s109.n rfl rfl,rfl,rfl,rfl,rfl,rfl,rfl,rfl,rfl,rfl,fun hg=>OpQ.g (q_lenS underlying9 rfl),rfl⟩ ?_
    refine .ite H rfl (fun H=>?_) (fun H=>?_)
    ·refine .A 6 [.d (.agg (Record.row (⟨0,0,0,([]:List UInt8),([]:List UInt8),0,0,0,0,false,0,false⟩:Record)))] rfl (OpQ.g (q_buildP pl_49 hi49 hz49 rfl rfl)) ?_
     refine .R func82 results82 rfl ?_
     cases H
     exact .m rfl (.tupD rfl)
    ·obtain ⟨y10,hy10,H⟩:=bind_some' H
     refine .A 11 [.d (.tup [cS y10.1,cI y10.2])] rfl (g_call (en 9 rfl) rfl rfl (c_f_textual_Encode (hy10))) ?_
     refine .seqJoin (ι:=Int) (fun v8j4=>[(2,.ref 0 0),(5,.ref 2 0),(8,.d (cI v8j4))]) (fun v8j4=>⟨[.row 49 [.d (cI 0),.d (cI 0),.d (cI 0),.d (cS ([]:List UInt8)),.d (cS ([]:List UInt8)),.d (cI 0),.d (cI 0),.d (cI 0),.d (cI 0),.d (cB false),.d (cI 0),.d (cB false)],.row 149 [.d (slOf 1 rS o1c0j3),.d (cB o1c1j3)],.row 49 [.d (cI y4.1),.d (cI y5.1),.d (cI (1+y3)),.d (cS y6.1),.d (cS o2c4j1),.d (cI y8.1),.d (cI y9.1),.d (cI o2c7j2),.d (cI o2c8j2),.d (cB o2c9j2),.d (cI o2c10j3),.d (cB o2c11j3)]],[]⟩) (fun s=>f_textual_Decode_j4 y3 y4 y5 y6 y8 y9 o2c4j1 o2c7j2 o2c8j2 o2c9j2 o2c10j3 o2c11j3 s=some r) ?_ ?_
     ·rintro v8j4 H
      replace H:f_textual_Decode_j4 y3 y4 y5 y6 y8 y9 o2c4j1 o2c7j2 o2c8j2 o2c9j2 o2c10j3 o2c11j3 v8j4=some r:=H
      unfold f_textual_Decode_j4 at H
      refine .A 6 [] rfl trivial ?_
      refine .ite H rfl (fun H=>?_) (fun H=>?_)
      ·refine .A 7 [.d (.agg (Record.row (⟨0,0,0,([]:List UInt8),([]:List UInt8),0,0,0,0,false,0,false⟩:Record)))] rfl (OpQ.g (q_buildP pl_49 hi49 hz49 rfl rfl)) ?_
       refine .R func82 results82 rfl ?_
       cases H
       exact .m rfl (.tupD rfl)
      ·refine .A 7 [] rfl trivial ?_
       refine .R func82 results82 rfl ?_
       cases H
       exact .m rfl (.tupD rfl)
     ·intro hj4
      refine .A 10 [] rfl ⟨rfl,rfl,rfl⟩ ?_
      refine .ite H rfl (fun H=>?_) (fun H=>?_)
      ·refine .A 3 [] rfl trivial ?_
       exact .z (hj4 1 H) rfl rfl
      ·refine .A 1 [] rfl trivial ?_
       exact .z (hj4 y10.2 H) rfl rfl
   ·intro hj3
    obtain ⟨y11,hy11,H⟩:=bind_some' H
    refine .B 3 [] rfl trivial ?_
    refine .callF (en 73 rfl) rfl [1] [] (x:=.d (cB y11.1)) (st':=⟨[.row 49 [.d (cI 0),.d (cI 0),.d (cI 0),.d (cS ([]:List UInt8)),.d (cS ([]:List UInt8)),.d (cI 0),.d (cI 0),.d (cI 0),.d (cI 0),.d (cB false),.d (cI 0),.d (cB false)],.row 149 [.d (slOf 1 rS y11.2.words),.d (cB y11.2.bad)],.row 49 [.d (cI y4.1),.d (cI y5.1),.d (cI (1+y3)),.d (cS y6.1),.d (cS o2c4j1),.d (cI y8.1),.d (cI y9.1),.d (cI o2c7j2),.d (cI o2c8j2),.d (cB o2c9j2),.d (cI 0),.d (cB false)]],[]⟩) rfl (c_g_textual_reader_next (hy11)) ⟨.rfl' _,.rfl' _,trivial⟩ rfl rfl rfl rfl rfl rfl ?_
    refine .A 1 [] rfl trivial ?_
    refine .ite H rfl (fun H=>?_) (fun H=>?_)
    ·obtain ⟨y12,hy12,H⟩:=bind_some' H
     refine .B 7 [] rfl trivial ?_
     refine .callF (en 72 rfl) rfl [1] [] (x:=.d (cI y12.1)) (st':=⟨[.row 49 [.d (cI 0),.d (cI 0),.d (cI 0),.d (cS ([]:List UInt8)),.d (cS ([]:List UInt8)),.d (cI 0),.d (cI 0),.d (cI 0),.d (cI 0),.d (cB false),.d (cI 0),.d (cB false)],.row 149 [.d (slOf 1 rS y12.2.words),.d (cB y12.2.bad)],.row 49 [.d (cI y4.1),.d (cI y5.1),.d (cI (1+y3)),.d (cS y6.1),.d (cS o2c4j1),.d (cI y8.1),.d (cI y9.1),.d (cI o2c7j2),.d (cI o2c8j2),.d (cB o2c9j2),.d (cI 0),.d (cB true)]],[]⟩) rfl (c_g_textual_reader_number (hy12)) ⟨.rfl' _,trivial⟩ rfl rfl rfl rfl rfl rfl ?_
     refine .A 3 [] rfl trivial ?_
     exact .z (hj3 (y12.2.words,y12.2.bad,y12.1,true) H) rfl rfl
    ·obtain ⟨y13,hy13,H⟩:=bind_some' H
     refine .B 3 [] rfl trivial ?_
     refine .callF (en 73 rfl) rfl [1] [] (x:=.d (cB y13.1)) (st':=⟨[.row 49 [.d (cI 0),.d (cI 0),.d (cI 0),.d (cS ([]:List UInt8)),.d (cS ([]:List UInt8)),.d (cI 0),.d (cI 0),.d (cI 0),.d (cI 0),.d (cB false),.d (cI 0),.d (cB false)],.row 149 [.d (slOf 1 rS y13.2.words),.d (cB y13.2.bad)],.row 49 [.d (cI y4.1),.d (cI y5.1),.d (cI (1+y3)),.d (cS y6.1),.d (cS o2c4j1),.d (cI y8.1),.d (cI y9.1),.d (cI o2c7j2),.d (cI o2c8j2),.d (cB o2c9j2),.d (cI 0),.d (cB false)]],[]⟩) rfl (c_g_textual_reader_next (hy13)) ⟨.rfl' _,.rfl' _,trivial⟩ rfl rfl rfl rfl rfl rfl ?_
     refine .A 1 [] rfl trivial ?_
     refine .ite H rfl (fun H=>?_) (fun H=>?_)
     ·obtain ⟨y14,hy14,H⟩:=bind_some' H
      refine .B 2 [] rfl trivial ?_
      refine .callF (en 72 rfl) rfl [1] [] (x:=.d (cI y14.1)) (st':=⟨[.row 49 [.d (cI 0),.d (cI 0),.d (cI 0),.d (cS ([]:List UInt8)),.d (cS ([]:List UInt8)),.d (cI 0),.d (cI 0),.d (cI 0),.d (cI 0),.d (cB false),.d (cI 0),.d (cB false)],.row 149 [.d (slOf 1 rS y14.2.words),.d (cB y14.2.bad)],.row 49 [.d (cI y4.1),.d (cI y5.1),.d (cI (1+y3)),.d (cS y6.1),.d (cS o2c4j1),.d (cI y8.1),.d (cI y9.1),.d (cI o2c7j2),.d (cI o2c8j2),.d (cB o2c9j2),.d (cI 0),.d (cB false)]],[]⟩) rfl (c_g_textual_reader_number (hy14)) ⟨.rfl' _,trivial⟩ rfl rfl rfl rfl rfl rfl ?_
      refine .A 3 [] rfl trivial ?_
      exact .z (hj3 (y14.2.words,y14.2.bad,y14.1,false) H) rfl rfl
     ·refine .A 1 [] rfl trivial ?_
      exact .z (hj3 (y13.2.words,y13.2.bad,0,false) H) rfl rfl
  ·intro hj2
   obtain ⟨y15,hy15,H⟩:=bind_some' H
   refine .B 3 [] rfl trivial ?_
   refine .callF (en 73 rfl) rfl [1] [] (x:=.d (cB y15.1)) (st':=⟨[.row 49 [.d (cI 0),.d (cI 0),.d (cI 0),.d (cS ([]:List UInt8)),.d (cS ([]:List UInt8)),.d (cI 0),.d (cI 0),.d (cI 0),.d (cI 0),.d (cB false),.d (cI 0),.d (cB false)],.row 149 [.d (slOf 1 rS y15.2.words),.d (cB y15.2.bad)],.row 49 [.d (cI y4.1),.d (cI y5.1),.d (cI (1+y3)),.d (cS y6.1),.d (cS o2c4j1),.d (cI y8.1),.d (cI y9.1),.d (cI 0),.d (cI 0),.d (cB false),.d (cI 0),.d (cB false)]],[]⟩) rfl (c_g_textual_reader_next (hy15)) ⟨.rfl' _,.rfl' _,trivial⟩ rfl rfl rfl rfl rfl rfl ?_
   refine .A 1 [] rfl trivial ?_
   refine .ite H rfl (fun H=>?_) (fun H=>?_)
   ·obtain ⟨y16,hy16,H⟩:=bind_some' H
    refine .B 3 [] rfl trivial ?_
    refine .callF (en 72 rfl) rfl [1] [] (x:=.d (cI y16.1)) (st':=⟨[.row 49 [.d (cI 0),.d (cI 0),.d (cI 0),.d (cS ([]:List UInt8)),.d (cS ([]:List UInt8)),.d (cI 0),.d (cI 0),.d (cI 0),.d (cI 0),.d (cB false),.d (cI 0),.d (cB false)],.row 149 [.d (slOf 1 rS y16.2.words),.d (cB y16.2.bad)],.row 49 [.d (cI y4.1),.d (cI y5.1),.d (cI (1+y3)),.d (cS y6.1),.d (cS o2c4j1),.d (cI y8.1),.d (cI y9.1),.d (cI 0),.d (cI 0),.d (cB false),.d (cI 0),.d (cB false)]],[]⟩) rfl (c_g_textual_reader_number (hy16)) ⟨.rfl' _,trivial⟩ rfl rfl rfl rfl rfl rfl ?_
    obtain ⟨y17,hy17,H⟩:=bind_some' H
    refine .B 6 [] rfl trivial ?_
    refine .callF (en 72 rfl) rfl [1] [] (x:=.d (cI y17.1)) (st':=⟨[.row 49 [.d (cI 0),.d (cI 0),.d (cI 0),.d (cS ([]:List UInt8)),.d (cS ([]:List UInt8)),.d (cI 0),.d (cI 0),.d (cI 0),.d (cI 0),.d (cB false),.d (cI 0),.d (cB false)],.row 149 [.d (slOf 1 rS y17.2.words),.d (cB y17.2.bad)],.row 49 [.d (cI y4.1),.d (cI y5.1),.d (cI (1+y3)),.d (cS y6.1),.d (cS o2c4j1),.d (cI y8.1),.d (cI y9.1),.d (cI y16.1),.d (cI 0),.d (cB false),.d (cI 0),.d (cB false)]],[]⟩) rfl (c_g_textual_reader_number (hy17)) ⟨.rfl' _,trivial⟩ rfl rfl rfl rfl rfl rfl ?_
    obtain ⟨y18,hy18,H⟩:=bind_some' H
    refine .B 5 [] rfl trivial ?_
    refine .callF (en 73 rfl) rfl [1] [] (x:=.d (cB y18.1)) (st':=⟨[.row 49 [.d (cI 0),.d (cI 0),.d (cI 0),.d (cS ([]:List UInt8)),.d (cS ([]:List UInt8)),.d (cI 0),.d (cI 0),.d (cI 0),.d (cI 0),.d (cB false),.d (cI 0),.d (cB false)],.row 149 [.d (slOf 1 rS y18.2.words),.d (cB y18.2.bad)],.row 49 [.d (cI y4.1),.d (cI y5.1),.d (cI (1+y3)),.d (cS y6.1),.d (cS o2c4j1),.d (cI y8.1),.d (cI y9.1),.d (cI y16.1),.d (cI y17.1),.d (cB false),.d (cI 0),.d (cB false)]],[]⟩) rfl (c_g_textual_reader_next (hy18)) ⟨.rfl' _,.rfl' _,trivial⟩ rfl rfl rfl rfl rfl rfl ?_
    refine .A 3 [] rfl trivial ?_
    exact .z (hj2 (y18.2.words,y18.2.bad,y16.1,y17.1,y18.1) H) rfl rfl
   ·refine .A 1 [] rfl trivial ?_
    exact .z (hj2 (y15.2.words,y15.2.bad,0,0,false) H) rfl rfl
 ·intro hj1
  refine .A 6 [] rfl trivial ?_
  refine .ite H rfl (fun H=>?_) (fun H=>?_)
  ·refine .A 4 [] rfl trivial ?_
   exact .z (hj1 ([]:List UInt8) H) rfl rfl
  ·refine .A 1 [] rfl trivial ?_
   exact .z (hj1 y7.1 H) rfl rfl
set_option maxRecDepth 100000
set_option maxHeartbeats 1000000
theorem c_f_textual_All {v0s:List UInt8} {r:(List Record)×(List Reject)×Int} (H:f_textual_All v0s=some r):ACall prog 49 [cS v0s] (·=.tup [slOf 12 Record.row r.1,slOf 4 Reject.row r.2.1,cI r.2.2]):=by
 obtain ⟨i49,hi49,hz49,hs49,hb49⟩:=in_49
 obtain ⟨i64,hi64,hz64,hs64,hb64⟩:=in_64
 refine ACall.enter' func49 rfl ntmps49 rfl fun S hS=>?_
 unfold f_textual_All at H
 obtain ⟨y1,hy1,H⟩:=bind_some' H
 refine .A 22 [.d (.tup [slOf 1 rS y1.1,cI y1.2])] rfl (g_call (en 74 rfl) rfl rfl (c_f_textual_Lines (hy1))) ?_
 refine .ite H rfl (fun H=>?_) (fun H=>?_)
 ·refine .A 7 [] rfl trivial ?_
  refine .R func49 results49 rfl ?_
  cases H
  exact .m rfl (.tupL ⟨.nil 12,.nil 4,.rfl' _,trivial⟩)
 ·refine .A 16 [.i (y1.1.length:Int)] rfl (s109.n rfl rfl) ?_
  refine .tok (i:=7) (e:=49) (sz:=12) rfl ?_
  refine .tok (i:=8) (e:=64) (sz:=4) rfl ?_
  refine .blockJoin2 (ι:=List Record×List Reject) (fun ⟨v7outj1,v8noj1⟩=>[(7,.tsl 12 (v7outj1.map Record.row) 0),(8,.tsl 4 (v8noj1.map Reject.row) 1)]) (fun ⟨v7outj1,v8noj1⟩=>⟨[],[⟨49,12,v7outj1.length,none⟩,⟨64,4,v8noj1.length,none⟩]⟩) (fun s=>f_textual_All_j1 s.1 s.2=some r) ?_ ?_
  ·rintro ⟨v7outj1,v8noj1⟩ H
   replace H:f_textual_All_j1 v7outj1 v8noj1=some r:=H
   unfold f_textual_All_j1 at H
   refine .A 8 [] rfl trivial ?_
   refine .R func49 results49 rfl ?_
   cases H
   exact .m rfl (.tupL ⟨.tsl _ _ _,.tsl _ _ _,.rfl' _,trivial⟩)
  ·intro hj1 hj1x
   obtain ⟨n1,H⟩:=loop_some H
   refine .loop (ι:=Nat×(List Record×List Reject×Int)) (fun ⟨_,v7outl1,v8nol1,v23l1⟩=>[(7,.tsl 12 (v7outl1.map Record.row) 0),(8,.tsl 4 (v8nol1.map Reject.row) 1),(21,.d (slOf 1 rS y1.1)),(22,.d (cI (y1.1.length:Int))),(23,.d (cI v23l1))]) (fun ⟨_,v7outl1,v8nol1,v23l1⟩=>⟨[],[⟨49,12,v7outl1.length,none⟩,⟨64,4,v8nol1.length,none⟩]⟩) (fun p=>iter (fun s=>f_textual_All_l1 y1 s.1 s.2.1 s.2.2) p.1 p.2=some r) (·.1) (n1,(([]:List Record),([]:List Reject),0)) H (.cons rfl (.rfl' _) (.cons rfl (.rfl' _) (.cons rfl (.rfl' _) (.cons rfl (.rfl' _) (.cons rfl (.rfl' _) (.nil)))))) rfl ?_
   rintro ⟨m1,v7outl1,v8nol1,v23l1⟩ HI ih1
   obtain ⟨n1,q1,hm1,H,HK1⟩:=iter_succ HI
   clear HI
   replace H:f_textual_All_l1 y1 v7outl1 v8nol1 v23l1=some q1:=H
   unfold f_textual_All_l1 at H
   refine .A 5 [] rfl trivial ?_
   refine .ite H rfl (fun H=>?_) (fun H=>?_)
   ·obtain ⟨hk1,H⟩:=ck_some H
    obtain ⟨y2,hy2,H⟩:=bind_some' H
    refine .A 28 [.d (.ro (rS (nth y1.1 v23l1.toNat))),.d (.tup [.agg (Record.row y2.1),cI y2.2]),.r 0] rfl ⟨g_call (en 75 rfl) rfl rfl (c_f_textual_Decode (hy2)),s109.ix rfl rfl rfl hk1⟩ ?_
    refine .ite H rfl (fun H=>?_) (fun H=>?_)
    ·obtain ⟨hk2,H⟩:=ck_some H
     obtain ⟨hk3,H⟩:=ck_some H
     refine .A 15 [.d (.agg (Reject.row (⟨0,0,v23l1,y2.2⟩:Reject))),.d (slOf 4 Reject.row ([(⟨0,0,v23l1,y2.2⟩:Reject)]:List Reject)),.a 1 64 4 Reject.row (v8nol1++([(⟨0,0,v23l1,y2.2⟩:Reject)]:List Reject)),.i (v23l1+1)] rfl ⟨g_addI rfl rfl hk3,s32.a rfl rfl rfl rfl hk2,g_buildSlice1 underlying32 hi64 hs64 hz64 rfl rfl rfl rfl rfl,OpQ.g (q_buildP pl_64 hi64 hz64 rfl rfl)⟩ ?_
     cases H
     exact .t 0 2 (ih1 (n1,(v7outl1,v8nol1++([(⟨0,0,v23l1,y2.2⟩:Reject)]:List Reject),v23l1+1)) HK1 hm1) rfl rfl rfl rfl rfl hS rfl
    ·obtain ⟨hk4,H⟩:=ck_some H
     obtain ⟨hk5,H⟩:=ck_some H
     refine .A 13 [.d (slOf 12 Record.row ([y2.1]:List Record)),.a 0 49 12 Record.row (v7outl1++([y2.1]:List Record)),.i (v23l1+1)] rfl ⟨g_addI rfl rfl hk5,s29.a rfl rfl rfl rfl hk4,g_buildSlice1 underlying29 hi49 hs49 hz49 rfl rfl rfl rfl rfl⟩ ?_
     cases H
     exact .t 0 2 (ih1 (n1,(v7outl1++([y2.1]:List Record),v8nol1,v23l1+1)) HK1 hm1) rfl rfl rfl rfl rfl hS rfl
   ·refine .A 1 [] rfl trivial ?_
    obtain ⟨q0,H9,hq0⟩:=map_some' H; clear H; cases hq0
    cases HK1
    have H:=H9
    exact .z (hj1x (v7outl1,v8nol1) H) rfl rfl
theorem c_f_batch_decode {v0format:Int} {v1b:List UInt8} {r:(List Record)×(List Reject)×Int} (H:f_batch_decode v0format v1b=some r):ACall prog 22 [cI v0format,slOf 1 rB8 v1b] (·=.tup [slOf 12 Record.row r.1,slOf 4 Reject.row r.2.1,cI r.2.2]):=by
 refine ACall.enter' func22 rfl ntmps22 rfl fun S hS=>?_
 unfold f_batch_decode at H
 refine .A 17 [] rfl trivial ?_
 refine .ite H rfl (fun H=>?_) (fun H=>?_)
 ·obtain ⟨y1,hy1,H⟩:=bind_some' H
  refine .A 11 [.d (.tup [slOf 12 Record.row y1.1,slOf 4 Reject.row y1.2.1,cI y1.2.2])] rfl (g_call (en 76 rfl) rfl rfl (c_f_tagged_All (hy1))) ?_
  refine .R func22 results22 rfl ?_
  cases H
  exact .m rfl (.tupD rfl)
 ·refine .A 5 [] rfl trivial ?_
  refine .ite H rfl (fun H=>?_) (fun H=>?_)
  ·obtain ⟨y2,hy2,H⟩:=bind_some' H
   refine .A 11 [.d (.tup [slOf 12 Record.row y2.1,slOf 4 Reject.row y2.2.1,cI y2.2.2])] rfl (g_call (en 77 rfl) rfl rfl (c_f_packed_All (hy2))) ?_
   refine .R func22 results22 rfl ?_
   cases H
   exact .m rfl (.tupD rfl)
  ·obtain ⟨y3,hy3,H⟩:=bind_some' H
   refine .A 14 [.s v1b,.d (.tup [slOf 12 Record.row y3.1,slOf 4 Reject.row y3.2.1,cI y3.2.2])] rfl ⟨g_call (en 78 rfl) rfl rfl (c_f_textual_All (hy3)),OpQ.g (q_bytesStrL (a:=v1b) underlying22 underlying5 underlying9 rfl rfl)⟩ ?_
   refine .R func22 results22 rfl ?_
   cases H
   exact .m rfl (.tupD rfl)
theorem c_g_batch_numbers_v1 {v0b:List UInt8} {o1c0p:Totals} {r:Int×Totals} (H:g_batch_numbers_v1 v0b o1c0p=some r):ACallS prog 42 [.d (slOf 1 rB8 v0b),.osl 0 0 5 5] ⟨[.row 79 [.ref 1 0,.ref 1 2,.ref 1 3,.ref 1 4,.ref 1 5],.row 52 [.d (cI o1c0p.count),.d (cI (nth o1c0p.units 0)),.d (cI (nth o1c0p.units 1)),.d (cI (nth o1c0p.units 2)),.d (cI (nth o1c0p.units 3)),.d (cI (nth o1c0p.units 4))]],[]⟩ (QE (.d (cI r.1)) ⟨[.row 79 [.ref 1 0,.ref 1 2,.ref 1 3,.ref 1 4,.ref 1 5],.row 52 [.d (cI r.2.count),.d (cI (nth r.2.units 0)),.d (cI (nth r.2.units 1)),.d (cI (nth r.2.units 2)),.d (cI (nth r.2.units 3)),.d (cI (nth r.2.units 4))]],[]⟩):=by
 obtain ⟨i79,hi79,hz79,hs79,hb79⟩:=in_79
 refine ACallS.keep ?_
 refine ACallS.enter func42 rfl ntmps42 rfl fun S hS=>?_
 unfold g_batch_numbers_v1 at H
 refine .A 11 [.i 5] rfl (OpQ.g (q_lenOsl underlying111 rfl)) ?_
 refine .blockJoin2 (ι:=List UInt8×Int×Int×Int×Int×Int) (fun ⟨v0bj1,o1c0j1,o1c2j1,o1c3j1,o1c4j1,o1c5j1⟩=>[(0,.d (slOf 1 rB8 v0bj1))]) (fun ⟨v0bj1,o1c0j1,o1c2j1,o1c3j1,o1c4j1,o1c5j1⟩=>⟨[.row 79 [.ref 1 0,.ref 1 2,.ref 1 3,.ref 1 4,.ref 1 5],.row 52 [.d (cI o1c0j1),.d (cI (nth o1c0p.units 0)),.d (cI o1c2j1),.d (cI o1c3j1),.d (cI o1c4j1),.d (cI o1c5j1)]],[]⟩) (fun s=>g_batch_numbers_v1_j1 o1c0p s.1 s.2.1 s.2.2.1 s.2.2.2.1 s.2.2.2.2.1 s.2.2.2.2.2=some r) ?_ ?_
 ·rintro ⟨v0bj1,o1c0j1,o1c2j1,o1c3j1,o1c4j1,o1c5j1⟩ H
  replace H:g_batch_numbers_v1_j1 o1c0p v0bj1 o1c0j1 o1c2j1 o1c3j1 o1c4j1 o1c5j1=some r:=H
  unfold g_batch_numbers_v1_j1 at H
  refine .A 7 [.i (v0bj1.length:Int)] rfl (s22.n rfl rfl) ?_
  refine .ite H rfl (fun H=>?_) (fun H=>?_)
  ·refine .A 4 [] rfl trivial ?_
   refine .R func42 results42 rfl ?_
   cases H
   exact ⟨[0,1],[],rfl,rfl,rfl,rfl,rfl,rfl,rfl,rfl,.rfl' _⟩
  ·refine .A 5 [] rfl trivial ?_
   refine .R func42 results42 rfl ?_
   cases H
   exact ⟨[0,1],[],rfl,rfl,rfl,rfl,rfl,rfl,rfl,rfl,.rfl' _⟩
 ·intro hj1 hj1x
  refine .loop0 ?_
  refine .A 5 [] rfl trivial ?_
  refine .cond rfl (fun hc=>?_) (fun hc=>absurd hc (by decide))
  clear hc
  obtain ⟨y1,hy1,H⟩:=bind_some' H
  refine .A 27 [.g (.ref 0 0),.d (.tup [cI y1.1,slOf 1 rB8 y1.2.1,cI y1.2.2])] rfl ⟨g_call (en 40 rfl) rfl rfl (c_f_codec_Number (hy1)),OpQ.g (q_idxOsl (m:=0) underlying111 hi79 hs79 rfl rfl rfl (by decide))⟩ ?_
  refine .ite H rfl (fun H=>?_) (fun H=>?_)
  ·refine .A 5 [] rfl trivial ?_
   refine .R func42 results42 rfl ?_
   cases H
   exact ⟨[0,1],[],rfl,rfl,rfl,rfl,rfl,rfl,rfl,rfl,.rfl' _⟩
  ·refine .A 14 [.i 1] rfl (OpQ.g (q_addI (a:=0) (b:=1) rfl rfl (by decide) (by decide))) ?_
   refine .inLoop ?_
   refine .A 5 [] rfl trivial ?_
   refine .cond rfl (fun hc=>?_) (fun hc=>absurd hc (by decide))
   clear hc
   obtain ⟨y2,hy2,H⟩:=bind_some' H
   refine .A 27 [.g (.ref 0 1),.d (.tup [cI y2.1,slOf 1 rB8 y2.2.1,cI y2.2.2])] rfl ⟨g_call (en 40 rfl) rfl rfl (c_f_codec_Number (hy2)),OpQ.g (q_idxOsl (m:=1) underlying111 hi79 hs79 rfl rfl rfl (by decide))⟩ ?_
   refine .ite H rfl (fun H=>?_) (fun H=>?_)
   ·refine .A 5 [] rfl trivial ?_
    refine .R func42 results42 rfl ?_
    cases H
    exact ⟨[0,1],[],rfl,rfl,rfl,rfl,rfl,rfl,rfl,rfl,.rfl' _⟩
   ·refine .A 14 [.i 2] rfl (OpQ.g (q_addI (a:=1) (b:=1) rfl rfl (by decide) (by decide))) ?_
    refine .inLoop ?_
    refine .A 5 [] rfl trivial ?_
    refine .cond rfl (fun hc=>?_) (fun hc=>absurd hc (by decide))
    clear hc
    obtain ⟨y3,hy3,H⟩:=bind_some' H
    refine .A 27 [.g (.ref 0 2),.d (.tup [cI y3.1,slOf 1 rB8 y3.2.1,cI y3.2.2])] rfl ⟨g_call (en 40 rfl) rfl rfl (c_f_codec_Number (hy3)),OpQ.g (q_idxOsl (m:=2) underlying111 hi79 hs79 rfl rfl rfl (by decide))⟩ ?_
    refine .ite H rfl (fun H=>?_) (fun H=>?_)
    ·refine .A 5 [] rfl trivial ?_
     refine .R func42 results42 rfl ?_
     cases H
     exact ⟨[0,1],[],rfl,rfl,rfl,rfl,rfl,rfl,rfl,rfl,.rfl' _⟩
    ·refine .A 14 [.i 3] rfl (OpQ.g (q_addI (a:=2) (b:=1) rfl rfl (by decide) (by decide))) ?_
     refine .inLoop ?_
     refine .A 5 [] rfl trivial ?_
     refine .cond rfl (fun hc=>?_) (fun hc=>absurd hc (by decide))
     clear hc
     obtain ⟨y4,hy4,H⟩:=bind_some' H
     refine .A 27 [.g (.ref 0 3),.d (.tup [cI y4.1,slOf 1 rB8 y4.2.1,cI y4.2.2])] rfl ⟨g_call (en 40 rfl) rfl rfl (c_f_codec_Number (hy4)),OpQ.g (q_idxOsl (m:=3) underlying111 hi79 hs79 rfl rfl rfl (by decide))⟩ ?_
     refine .ite H rfl (fun H=>?_) (fun H=>?_)
     ·refine .A 5 [] rfl trivial ?_
      refine .R func42 results42 rfl ?_
      cases H
      exact ⟨[0,1],[],rfl,rfl,rfl,rfl,rfl,rfl,rfl,rfl,.rfl' _⟩
     ·refine .A 14 [.i 4] rfl (OpQ.g (q_addI (a:=3) (b:=1) rfl rfl (by decide) (by decide))) ?_
      refine .inLoop ?_
      refine .A 5 [] rfl trivial ?_
      refine .cond rfl (fun hc=>?_) (fun hc=>absurd hc (by decide))
      clear hc
      obtain ⟨y5,hy5,H⟩:=bind_some' H
      refine .A 27 [.g (.ref 0 4),.d (.tup [cI y5.1,slOf 1 rB8 y5.2.1,cI y5.2.2])] rfl ⟨g_call (en 40 rfl) rfl rfl (c_f_codec_Number (hy5)),OpQ.g (q_idxOsl (m:=4) underlying111 hi79 hs79 rfl rfl rfl (by decide))⟩ ?_
      refine .ite H rfl (fun H=>?_) (fun H=>?_)
      ·refine .A 5 [] rfl trivial ?_
       refine .R func42 results42 rfl ?_
       cases H
       exact ⟨[0,1],[],rfl,rfl,rfl,rfl,rfl,rfl,rfl,rfl,.rfl' _⟩
      ·refine .A 14 [.i 5] rfl (OpQ.g (q_addI (a:=4) (b:=1) rfl rfl (by decide) (by decide))) ?_
       refine .inLoop ?_
       refine .A 5 [] rfl trivial ?_
       refine .cond rfl (fun hc=>absurd hc (by decide)) (fun hc=>?_)
       clear hc
       refine .A 1 [] rfl trivial ?_
       exact .z (hj1x (y5.2.1,y1.1,y2.1,y3.1,y4.1,y5.1) H) rfl rfl
theorem c_f_batch_trailer {v0rest:List UInt8} {r:Totals×Int} (H:f_batch_trailer v0rest=some r):ACall prog 23 [slOf 1 rB8 v0rest] (·=.tup [.agg (Totals.row r.1),cI r.2]):=by
 obtain ⟨i3,hi3,hz3,hs3,hb3⟩:=in_3
 obtain ⟨i52,hi52,hz52,hs52,hb52⟩:=in_52
 obtain ⟨i79,hi79,hz79,hs79,hb79⟩:=in_79
 refine ACall.enter' func23 rfl ntmps23 rfl fun S hS=>?_
 unfold f_batch_trailer at H
 obtain ⟨y1,hy1,H⟩:=bind_some' H
 refine .A 17 [.r 0,.d (.tup [slOf 1 rB8 y1.1,slOf 1 rB8 y1.2.1,cI y1.2.2])] rfl (g_call (en 43 rfl) rfl rfl (c_f_frame_Unwrap (hy1))) ?_
 refine .seqJoin (ι:=Int) (fun v5ej1=>[(2,.ref 0 0),(4,.d (slOf 1 rB8 y1.1)),(5,.d (cI v5ej1))]) (fun v5ej1=>⟨[.row 52 [.d (cI 0),.d (cI 0),.d (cI 0),.d (cI 0),.d (cI 0),.d (cI 0)]],[]⟩) (fun s=>f_batch_trailer_j1 y1 s=some r) ?_ ?_
 ·rintro v5ej1 H
  replace H:f_batch_trailer_j1 y1 v5ej1=some r:=H
  unfold f_batch_trailer_j1 at H
  refine .A 6 [] rfl trivial ?_
  refine .ite H rfl (fun H=>?_) (fun H=>?_)
  ·refine .A 7 [.d (.agg (Totals.row (⟨0,([0,0,0,0,0]:List Int)⟩:Totals)))] rfl (OpQ.g (q_buildP pl_52 hi52 hz52 rfl rfl)) ?_
   refine .R func23 results23 rfl ?_
   cases H
   exact .m rfl (.tupD rfl)
  ·obtain ⟨y2,hy2,H⟩:=bind_some' H
   refine .B 18 [.r 1,.g (.ref 1 2),.g (.ref 1 3),.g (.ref 1 4),.g (.ref 1 5),.v (.osl 2 0 5 5) ⟨[.row 52 [.d (cI 0),.d (cI 0),.d (cI 0),.d (cI 0),.d (cI 0),.d (cI 0)],.row 52 [.d (cI 0),.d (cI 0),.d (cI 0),.d (cI 0),.d (cI 0),.d (cI 0)],.row 79 [.ref 1 0,.ref 1 2,.ref 1 3,.ref 1 4,.ref 1 5]],[]⟩] rfl ⟨.e (v_buildSliceR underlying111 hi79 hs79 hz79 rfl rfl rfl rfl) rfl,OpQ.g (q_idxArr (m:=4) (sz:=1) underlying50 ⟨_,hi3,hs3⟩ rfl rfl rfl (by decide)),OpQ.g (q_idxArr (m:=3) (sz:=1) underlying50 ⟨_,hi3,hs3⟩ rfl rfl rfl (by decide)),OpQ.g (q_idxArr (m:=2) (sz:=1) underlying50 ⟨_,hi3,hs3⟩ rfl rfl rfl (by decide)),OpQ.g (q_idxArr (m:=1) (sz:=1) underlying50 ⟨_,hi3,hs3⟩ rfl rfl rfl (by decide))⟩ ?_
   refine .callF (en 44 rfl) rfl [2,1] [] (x:=.d (cI y2.1)) (st':=⟨[.row 52 [.d (cI 0),.d (cI 0),.d (cI 0),.d (cI 0),.d (cI 0),.d (cI 0)],.row 52 [.d (cI y2.2.count),.d (cI (nth y2.2.units 0)),.d (cI (nth y2.2.units 1)),.d (cI (nth y2.2.units 2)),.d (cI (nth y2.2.units 3)),.d (cI (nth y2.2.units 4))],.row 79 [.ref 1 0,.ref 1 2,.ref 1 3,.ref 1 4,.ref 1 5]],[]⟩) rfl (c_g_batch_numbers_v1 (hy2)) ⟨.rfl' _,.rfl' _,trivial⟩ rfl rfl rfl rfl rfl rfl ?_
   refine .A 9 [] rfl trivial ?_
   refine .R func23 results23 rfl ?_
   cases H
   exact .m rfl (.tupD rfl)
 ·intro hj1
  refine .A 10 [.i (y1.2.1.length:Int)] rfl ⟨rfl,rfl,fun hg=>s22.n rfl rfl,rfl⟩ ?_
  refine .ite H rfl (fun H=>?_) (fun H=>?_)
  ·refine .A 3 [] rfl trivial ?_
   exact .z (hj1 3 H) rfl rfl
  ·refine .A 1 [] rfl trivial ?_
   exact .z (hj1 y1.2.2 H) rfl rfl
theorem c_f_batch_Read {v0:List UInt8} {r:Batch×(List Reject)×Int} (H:f_batch_Read v0=some r):ACall prog 9 [slOf 1 rB8 v0] (·=.tup [.agg (Batch.row r.1),slOf 4 Reject.row r.2.1,cI r.2.2]):=by
 obtain ⟨i31,hi31,hz31,hs31,hb31⟩:=in_31
 refine ACall.enter' func9 rfl ntmps9 rfl fun S hS=>?_
 unfold f_batch_Read at H
 obtain ⟨y1,hy1,H⟩:=bind_some' H
 refine .A 25 [.r 0,.d (.tup [.agg (Head.row y1.1),slOf 1 rB8 y1.2.1,cI y1.2.2]),.r 1] rfl (g_call (en 45 rfl) rfl rfl (c_f_batch_first (hy1))) ?_
 refine .ite H rfl (fun H=>?_) (fun H=>?_)
 ·refine .A 8 [.d (.agg (Batch.row (⟨0,0,0,([]:List Record)⟩:Batch)))] rfl (OpQ.g (OpQ.le (q_buildP pl_31 hi31 hz31 rfl rfl) (EVle.d (.agg ⟨.rfl' _,.rfl' _,.rfl' _,.nil 12,trivial⟩)))) ?_
  refine .R func9 results9 rfl ?_
  cases H
  exact .m rfl (.tupL ⟨.rfl' _,.nil 4,.rfl' _,trivial⟩)
 ·obtain ⟨y2,hy2,H⟩:=bind_some' H
  refine .A 19 [.d (.tup [slOf 1 rB8 y2.1,slOf 1 rB8 y2.2.1,cI y2.2.2])] rfl (g_call (en 43 rfl) rfl rfl (c_f_frame_Unwrap (hy2))) ?_
  refine .ite H rfl (fun H=>?_) (fun H=>?_)
  ·refine .A 8 [.d (.agg (Batch.row (⟨0,0,0,([]:List Record)⟩:Batch)))] rfl (OpQ.g (OpQ.le (q_buildP pl_31 hi31 hz31 rfl rfl) (EVle.d (.agg ⟨.rfl' _,.rfl' _,.rfl' _,.nil 12,trivial⟩)))) ?_
   refine .R func9 results9 rfl ?_
   cases H
   exact .m rfl (.tupL ⟨.rfl' _,.nil 4,.rfl' _,trivial⟩)
  ·obtain ⟨y3,hy3,H⟩:=bind_some' H
   refine .A 21 [.d (.tup [slOf 12 Record.row y3.1,slOf 4 Reject.row y3.2.1,cI y3.2.2])] rfl (g_call (en 79 rfl) rfl rfl (c_f_batch_decode (hy3))) ?_
   refine .ite H rfl (fun H=>?_) (fun H=>?_)
   ·refine .A 8 [.d (.agg (Batch.row (⟨0,0,0,([]:List Record)⟩:Batch)))] rfl (OpQ.g (OpQ.le (q_buildP pl_31 hi31 hz31 rfl rfl) (EVle.d (.agg ⟨.rfl' _,.rfl' _,.rfl' _,.nil 12,trivial⟩)))) ?_
    refine .R func9 results9 rfl ?_
    cases H
    exact .m rfl (.tupL ⟨.rfl' _,.nil 4,.rfl' _,trivial⟩)
   ·obtain ⟨y4,hy4,H⟩:=bind_some' H
    refine .A 18 [.d (.tup [.agg (Totals.row y4.1),cI y4.2]),.r 2] rfl (g_call (en 80 rfl) rfl rfl (c_f_batch_trailer (hy4))) ?_
    refine .ite H rfl (fun H=>?_) (fun H=>?_)
    ·refine .A 8 [.d (.agg (Batch.row (⟨0,0,0,([]:List Record)⟩:Batch)))] rfl (OpQ.g (OpQ.le (q_buildP pl_31 hi31 hz31 rfl rfl) (EVle.d (.agg ⟨.rfl' _,.rfl' _,.rfl' _,.nil 12,trivial⟩)))) ?_
     refine .R func9 results9 rfl ?_
     cases H
     exact .m rfl (.tupL ⟨.rfl' _,.nil 4,.rfl' _,trivial⟩)
    ·obtain ⟨y5,hy5,H⟩:=bind_some' H
     refine .A 17 [.p 11,.d (.agg (Totals.row y5)),.b (!(eqVs (Totals.vals y4.1) (Totals.vals y5))),.i (y3.1.length:Int)] rfl ⟨rfl,rfl,rfl,fun hg=>s29.n rfl rfl,rfl,rfl,OpQ.g (q_gtneq fg_52 rfl rfl (xs:=Totals.vals y4.1) (ys:=Totals.vals y5) rfl rfl rfl rfl),g_call (en 33 rfl) rfl rfl (c_f_batch_Totals (hy5)),(show drawB _ _=true by kernel_rfl)⟩ ?_
     refine .ite H rfl (fun H=>?_) (fun H=>?_)
     ·refine .A 7 [.d (.agg (Batch.row (⟨0,0,0,([]:List Record)⟩:Batch)))] rfl (OpQ.g (OpQ.le (q_buildP pl_31 hi31 hz31 rfl rfl) (EVle.d (.agg ⟨.rfl' _,.rfl' _,.rfl' _,.nil 12,trivial⟩)))) ?_
      refine .R func9 results9 rfl ?_
      cases H
      exact .m rfl (.tupL ⟨.rfl' _,.nil 4,.rfl' _,trivial⟩)
     ·refine .A 8 [.i (y3.1.length:Int)] rfl (s29.n rfl rfl) ?_
      refine .blockJoin2 (ι:=Unit) (fun _=>[(2,.ref 0 0),(5,.ref 1 0),(9,.d (slOf 12 Record.row y3.1)),(10,.d (slOf 4 Reject.row y3.2.1))]) (fun _=>⟨[.row 31 [.d (cI 0),.d (cI 0),.d (cI 0),.d (nilD)],.row 25 [.d (cI y1.1.source),.d (cI y1.1.number),.d (cI y1.1.format),.d (cI y1.1.count)],.row 52 [.d (cI y4.1.count),.d (cI (nth y4.1.units 0)),.d (cI (nth y4.1.units 1)),.d (cI (nth y4.1.units 2)),.d (cI (nth y4.1.units 3)),.d (cI (nth y4.1.units 4))]],[]⟩) (fun s=>f_batch_Read_j1 y1 y3=some r) ?_ ?_
      ·rintro _ H
       replace H:f_batch_Read_j1 y1 y3=some r:=H
       unfold f_batch_Read_j1 at H
       refine .A 15 [.d (.agg (Batch.row (⟨y1.1.source,y1.1.number,y1.1.format,y3.1⟩:Batch)))] rfl (OpQ.g (q_buildP pl_31 hi31 hz31 rfl rfl)) ?_
       refine .R func9 results9 rfl ?_
       cases H
       exact .m rfl (.tupD rfl)
      ·intro hj1 hj1x
       obtain ⟨n1,H⟩:=loop_some H
       refine .loop (ι:=Nat×(Int)) (fun ⟨_,v69l1⟩=>[(2,.ref 0 0),(5,.ref 1 0),(9,.d (slOf 12 Record.row y3.1)),(10,.d (slOf 4 Reject.row y3.2.1)),(67,.d (slOf 12 Record.row y3.1)),(68,.d (cI (y3.1.length:Int))),(69,.d (cI v69l1))]) (fun ⟨_,v69l1⟩=>⟨[.row 31 [.d (cI 0),.d (cI 0),.d (cI 0),.d (nilD)],.row 25 [.d (cI y1.1.source),.d (cI y1.1.number),.d (cI y1.1.format),.d (cI y1.1.count)],.row 52 [.d (cI y4.1.count),.d (cI (nth y4.1.units 0)),.d (cI (nth y4.1.units 1)),.d (cI (nth y4.1.units 2)),.d (cI (nth y4.1.units 3)),.d (cI (nth y4.1.units 4))]],[]⟩) (fun p=>iter (fun s=>f_batch_Read_l1 y1 y3 s) p.1 p.2=some r) (·.1) (n1,0) H (.cons rfl (.rfl' _) (.cons rfl (.rfl' _) (.cons rfl (.rfl' _) (.cons rfl (.rfl' _) (.cons rfl (.rfl' _) (.cons rfl (.rfl' _) (.cons rfl (.rfl' _) (.nil)))))))) rfl ?_
       rintro ⟨m1,v69l1⟩ HI ih1
       obtain ⟨n1,q1,hm1,H,HK1⟩:=iter_succ HI
       clear HI
       replace H:f_batch_Read_l1 y1 y3 v69l1=some q1:=H
       unfold f_batch_Read_l1 at H
       refine .A 5 [] rfl trivial ?_
       refine .ite H rfl (fun H=>?_) (fun H=>?_)
       ·obtain ⟨hk1,H⟩:=ck_some H
        refine .A 18 [.d (.ro (Record.row (nth y3.1 v69l1.toNat))),.r 3] rfl (s29.ix rfl rfl rfl hk1) ?_
        refine .ite H rfl (fun H=>?_) (fun H=>?_)
        ·refine .A 7 [.d (.agg (Batch.row (⟨0,0,0,([]:List Record)⟩:Batch)))] rfl (OpQ.g (OpQ.le (q_buildP pl_31 hi31 hz31 rfl rfl) (EVle.d (.agg ⟨.rfl' _,.rfl' _,.rfl' _,.nil 12,trivial⟩)))) ?_
         refine .R func9 results9 rfl ?_
         cases H
         cases HK1
         exact .m rfl (.tupL ⟨.rfl' _,.nil 4,.rfl' _,trivial⟩)
        ·obtain ⟨hk2,H⟩:=ck_some H
         refine .A 6 [.i (v69l1+1)] rfl (g_addI rfl rfl hk2) ?_
         cases H
         exact .t 3 0 (ih1 (n1,(v69l1+1)) HK1 hm1) rfl rfl rfl rfl rfl hS rfl
       ·refine .A 1 [] rfl trivial ?_
        obtain ⟨q0,H9,hq0⟩:=map_some' H; clear H; cases hq0
        cases HK1
        have H:=H9
        exact .z (hj1x () H) rfl rfl
set_option maxRecDepth 100000
set_option maxHeartbeats 1000000
theorem c_f_r09_in {v0n:Int} {v1low:Int} {v2high:Int} {r:Bool} (H:f_r09_in v0n v1low v2high=some r):ACall prog 101 [cI v0n,cI v1low,cI v2high] (·=cB r):=by
 refine ACall.enter' func101 rfl ntmps101 rfl fun S hS=>?_
 unfold f_r09_in at H
 refine .A 16 [] rfl ⟨rfl,rfl,rfl⟩ ?_
 refine .R func101 results101 rfl ?_
 cases H
 exact .m rfl (.rfl' _)
theorem c_f_r02_Valid {v0s:List UInt8} {r:Bool} (H:f_r02_Valid v0s=some r):ACall prog 102 [cS v0s] (·=cB r):=by
 refine ACall.enter' func102 rfl ntmps102 rfl fun S hS=>?_
 unfold f_r02_Valid at H
 refine .A 9 [] rfl trivial ?_
 refine .blockJoin2 (ι:=Unit) (fun _=>[(0,.d (cS v0s))]) (fun _=>⟨[],[]⟩) (fun s=>f_r02_Valid_j1 v0s=some r) ?_ ?_
 ·rintro _ H
  replace H:f_r02_Valid_j1 v0s=some r:=H
  unfold f_r02_Valid_j1 at H
  refine .A 12 [.i (v0s.length:Int),.i (v0s.length:Int)] rfl ⟨rfl,rfl,fun hg=>OpQ.g (q_lenS underlying9 rfl),rfl,OpQ.g (q_lenS underlying9 rfl)⟩ ?_
  refine .R func102 results102 rfl ?_
  cases H
  exact .m rfl (.rfl' _)
 ·intro hj1 hj1x
  obtain ⟨n1,H⟩:=loop_some H
  refine .loop (ι:=Nat×(Int)) (fun ⟨_,v3il1⟩=>[(0,.d (cS v0s)),(3,.d (cI v3il1))]) (fun ⟨_,v3il1⟩=>⟨[],[]⟩) (fun p=>iter (fun s=>f_r02_Valid_l1 v0s s) p.1 p.2=some r) (·.1) (n1,0) H (.cons rfl (.rfl' _) (.cons rfl (.rfl' _) (.nil))) rfl ?_
  rintro ⟨m1,v3il1⟩ HI ih1
  obtain ⟨n1,q1,hm1,H,HK1⟩:=iter_succ HI
  clear HI
  replace H:f_r02_Valid_l1 v0s v3il1=some q1:=H
  unfold f_r02_Valid_l1 at H
  refine .A 8 [.i (v0s.length:Int)] rfl (OpQ.g (q_lenS underlying9 rfl)) ?_
  refine .ite H rfl (fun H=>?_) (fun H=>?_)
  ·obtain ⟨hk1,H⟩:=ck_some H
   obtain ⟨hk2,H⟩:=ck_some H
   refine .A 16 [.c (nth v0s v3il1.toNat),.b (decide ((nth v0s v3il1.toNat) < 48)),.c (nth v0s v3il1.toNat),.b (decide ((nth v0s v3il1.toNat) > 57))] rfl ⟨rfl,fun hg=>OpQ.g (q8_gtr (a:=nth v0s v3il1.toNat) (b:=57) rfl rfl),rfl,fun hg=>OpQ.g (q_indexL (i:=v3il1) underlying9 rfl rfl (hk2 hg)),rfl,rfl,OpQ.g (q8_lss (a:=nth v0s v3il1.toNat) (b:=48) rfl rfl),OpQ.g (q_indexL (i:=v3il1) underlying9 rfl rfl hk1)⟩ ?_
   refine .ite H rfl (fun H=>?_) (fun H=>?_)
   ·refine .A 4 [] rfl trivial ?_
    refine .R func102 results102 rfl ?_
    cases H
    cases HK1
    exact .m rfl (.rfl' _)
   ·obtain ⟨hk3,H⟩:=ck_some H
    refine .A 7 [.i (v3il1+1)] rfl (g_addI rfl rfl hk3) ?_
    cases H
    exact .z (ih1 (n1,(v3il1+1)) HK1 hm1) rfl rfl
  ·refine .A 1 [] rfl trivial ?_
   obtain ⟨q0,H9,hq0⟩:=map_some' H; clear H; cases hq0
   cases HK1
   have H:=H9
   exact .z (hj1x () H) rfl rfl
theorem c_f_r09_Error {v0:Record} {r:Int} (H:f_r09_Error v0=some r):ACall prog 63 [.agg (Record.row v0)] (·=cI r):=by
 refine ACall.enter' func63 rfl ntmps63 rfl fun S hS=>?_
 unfold f_r09_Error at H
 obtain ⟨y1,hy1,H⟩:=bind_some' H
 obtain ⟨y2,hy2,H⟩:=bind_some' H
 refine .A 21 [.r 0,.b y1,.b y2] rfl ⟨rfl,rfl,fun hg=>g_call (en 83 rfl) rfl rfl (c_f_r09_in (gcall_some hy2 hg)),rfl,rfl,g_call (en 83 rfl) rfl rfl (c_f_r09_in (hy1))⟩ ?_
 refine .ite H rfl (fun H=>?_) (fun H=>?_)
 ·refine .A 4 [] rfl trivial ?_
  refine .R func63 results63 rfl ?_
  cases H
  exact .m rfl (.rfl' _)
 ·obtain ⟨y3,hy3,H⟩:=bind_some' H
  refine .A 8 [.b y3] rfl (g_call (en 83 rfl) rfl rfl (c_f_r09_in (hy3))) ?_
  refine .ite H rfl (fun H=>?_) (fun H=>?_)
  ·refine .A 4 [] rfl trivial ?_
   refine .R func63 results63 rfl ?_
   cases H
   exact .m rfl (.rfl' _)
  ·obtain ⟨y4,hy4,H⟩:=bind_some' H
   refine .A 8 [.b y4] rfl (g_call (en 84 rfl) rfl rfl (c_f_r02_Valid (hy4))) ?_
   refine .ite H rfl (fun H=>?_) (fun H=>?_)
   ·refine .A 4 [] rfl trivial ?_
    refine .R func63 results63 rfl ?_
    cases H
    exact .m rfl (.rfl' _)
   ·obtain ⟨y5,hy5,H⟩:=bind_some' H
    refine .B 18 [.b y5] rfl ⟨rfl,rfl,rfl,rfl,rfl,rfl,rfl,rfl,g_call (en 84 rfl) rfl rfl (c_f_r02_Valid (hy5))⟩ ?_
    refine .guardG (env':=[(37,_),(40,_)]) rfl rfl rfl ⟨.inr (.inl rfl),⟨.inr (.inr ⟨_,_,rfl,rfl⟩),trivial⟩⟩ rfl (fun hg=>OpQ.g (q_pickAndB rfl rfl rfl)) ?_
    refine .guardG (env':=[(33,_),(41,_)]) rfl rfl rfl ⟨.inr (.inl rfl),⟨.inr (.inr ⟨_,_,rfl,rfl⟩),trivial⟩⟩ rfl (fun hg=>OpQ.g (q_pickOrB rfl rfl rfl)) ?_
    refine .A 3 [] rfl rfl ?_
    refine .ite H rfl (fun H=>?_) (fun H=>?_)
    ·refine .A 4 [] rfl trivial ?_
     refine .R func63 results63 rfl ?_
     cases H
     exact .m rfl (.rfl' _)
    ·obtain ⟨y6,hy6,H⟩:=bind_some' H
     refine .A 8 [.b y6] rfl (g_call (en 83 rfl) rfl rfl (c_f_r09_in (hy6))) ?_
     refine .ite H rfl (fun H=>?_) (fun H=>?_)
     ·refine .A 4 [] rfl trivial ?_
      refine .R func63 results63 rfl ?_
      cases H
      exact .m rfl (.rfl' _)
     ·obtain ⟨y7,hy7,H⟩:=bind_some' H
      refine .B 14 [.b y7] rfl ⟨rfl,rfl,rfl,rfl,rfl,g_call (en 83 rfl) rfl rfl (c_f_r09_in (hy7))⟩ ?_
      refine .guardG (env':=[(58,_),(61,_)]) rfl rfl rfl ⟨.inr (.inl rfl),⟨.inr (.inr ⟨_,_,rfl,rfl⟩),trivial⟩⟩ rfl (fun hg=>OpQ.g (q_pickAndB rfl rfl rfl)) ?_
      refine .A 3 [] rfl rfl ?_
      refine .ite H rfl (fun H=>?_) (fun H=>?_)
      ·refine .A 4 [] rfl trivial ?_
       refine .R func63 results63 rfl ?_
       cases H
       exact .m rfl (.rfl' _)
      ·obtain ⟨hk1,H⟩:=ck_some H
       refine .A 15 [.i (v0.start+v0.units)] rfl ⟨rfl,rfl,fun hg=>g_addI rfl rfl (hk1 hg),rfl,rfl,rfl,rfl⟩ ?_
       refine .ite H rfl (fun H=>?_) (fun H=>?_)
       ·refine .A 4 [] rfl trivial ?_
        refine .R func63 results63 rfl ?_
        cases H
        exact .m rfl (.rfl' _)
       ·obtain ⟨y8,hy8,H⟩:=bind_some' H
        obtain ⟨y9,hy9,H⟩:=bind_some' H
        refine .A 14 [.b y8,.b y9] rfl ⟨rfl,rfl,fun hg=>g_call (en 83 rfl) rfl rfl (c_f_r09_in (gcall_some hy9 hg)),rfl,rfl,g_call (en 83 rfl) rfl rfl (c_f_r09_in (hy8))⟩ ?_
        refine .ite H rfl (fun H=>?_) (fun H=>?_)
        ·refine .A 4 [] rfl trivial ?_
         refine .R func63 results63 rfl ?_
         cases H
         exact .m rfl (.rfl' _)
        ·refine .B 16 [.b ((v0.part==0) != (v0.call==0))] rfl ⟨rfl,rfl,rfl,rfl,OpQ.g (q_bneq rfl underlying4 rfl)⟩ ?_
         refine .guardG (env':=[(98,_),(101,_)]) rfl rfl rfl ⟨.inr (.inl rfl),⟨.inr (.inr ⟨_,_,rfl,rfl⟩),trivial⟩⟩ rfl (fun hg=>OpQ.g (q_pickAndB rfl rfl rfl)) ?_
         refine .A 3 [] rfl rfl ?_
         refine .ite H rfl (fun H=>?_) (fun H=>?_)
         ·refine .A 4 [] rfl trivial ?_
          refine .R func63 results63 rfl ?_
          cases H
          exact .m rfl (.rfl' _)
         ·obtain ⟨y10,hy10,H⟩:=bind_some' H
          refine .A 8 [.b y10] rfl (g_call (en 83 rfl) rfl rfl (c_f_r09_in (hy10))) ?_
          refine .ite H rfl (fun H=>?_) (fun H=>?_)
          ·refine .A 4 [] rfl trivial ?_
           refine .R func63 results63 rfl ?_
           cases H
           exact .m rfl (.rfl' _)
          ·refine .A 11 [] rfl ⟨rfl,rfl,rfl⟩ ?_
           refine .ite H rfl (fun H=>?_) (fun H=>?_)
           ·refine .A 4 [] rfl trivial ?_
            refine .R func63 results63 rfl ?_
            cases H
            exact .m rfl (.rfl' _)
           ·refine .A 6 [] rfl trivial ?_
            refine .R func63 results63 rfl ?_
            cases H
            exact .m rfl (.rfl' _)
theorem c_f_r09_Number {v0n:Int} {r:(List UInt8)} (H:f_r09_Number v0n=some r):ACall prog 64 [cI v0n] (·=cS r):=by
 obtain ⟨i5,hi5,hz5,hs5,hb5⟩:=in_5
 refine ACall.enter' func64 rfl ntmps64 rfl fun S hS=>?_
 unfold f_r09_Number at H
 obtain ⟨hk1,H⟩:=ck_some H
 obtain ⟨hk2,H⟩:=ck_some H
 obtain ⟨hk3,H⟩:=ck_some H
 refine .A 22 [.i (Int.tmod v0n 10),.i (48+(Int.tmod v0n 10)),.c (UInt8.ofInt (48+(Int.tmod v0n 10))),.d (slOf 1 rB8 ([UInt8.ofInt (48+(Int.tmod v0n 10))]:List UInt8)),.s ([UInt8.ofInt (48+(Int.tmod v0n 10))]:List UInt8),.i (Int.tdiv v0n 10)] rfl ⟨OpQ.g (q_quoT rfl rfl hk3),OpQ.g (q_bytesStrL (a:=([UInt8.ofInt (48+(Int.tmod v0n 10))]:List UInt8)) underlying22 underlying5 underlying9 rfl rfl),g_buildSlice1 underlying22 hi5 hs5 hz5 rfl rfl rfl rfl rfl,OpQ.g (q_conv8 underlying3 underlying5 rfl),g_addI rfl rfl hk2,OpQ.g (q_remT rfl rfl hk1)⟩ ?_
 obtain ⟨n1,H⟩:=loop_some H
 refine .loop (ι:=Nat×(Int×List UInt8)) (fun ⟨_,v0nl1,v3sl1⟩=>[(0,.d (cI v0nl1)),(3,.d (cS v3sl1))]) (fun ⟨_,v0nl1,v3sl1⟩=>⟨[],[]⟩) (fun p=>iter (fun s=>f_r09_Number_l1 s.1 s.2) p.1 p.2=some r) (·.1) (n1,(Int.tdiv v0n 10,([UInt8.ofInt (48+(Int.tmod v0n 10))]:List UInt8))) H (.cons rfl (.rfl' _) (.cons rfl (.rfl' _) (.nil))) rfl ?_
 rintro ⟨m1,v0nl1,v3sl1⟩ HI ih1
 obtain ⟨n1,q1,hm1,H,HK1⟩:=iter_succ HI
 clear HI
 replace H:f_r09_Number_l1 v0nl1 v3sl1=some q1:=H
 unfold f_r09_Number_l1 at H
 refine .A 6 [] rfl trivial ?_
 refine .ite H rfl (fun H=>?_) (fun H=>?_)
 ·obtain ⟨hk4,H⟩:=ck_some H
  obtain ⟨hk5,H⟩:=ck_some H
  obtain ⟨hk6,H⟩:=ck_some H
  obtain ⟨hk7,H⟩:=ck_some H
  refine .A 20 [.i (Int.tmod v0nl1 10),.i (48+(Int.tmod v0nl1 10)),.c (UInt8.ofInt (48+(Int.tmod v0nl1 10))),.d (slOf 1 rB8 ([UInt8.ofInt (48+(Int.tmod v0nl1 10))]:List UInt8)),.s ([UInt8.ofInt (48+(Int.tmod v0nl1 10))]:List UInt8),.s (([UInt8.ofInt (48+(Int.tmod v0nl1 10))]:List UInt8)++v3sl1),.i (Int.tdiv v0nl1 10)] rfl ⟨OpQ.g (q_quoT rfl rfl hk7),OpQ.g (q_sadd rfl rfl hk6),OpQ.g (q_bytesStrL (a:=([UInt8.ofInt (48+(Int.tmod v0nl1 10))]:List UInt8)) underlying22 underlying5 underlying9 rfl rfl),g_buildSlice1 underlying22 hi5 hs5 hz5 rfl rfl rfl rfl rfl,OpQ.g (q_conv8 underlying3 underlying5 rfl),g_addI rfl rfl hk5,OpQ.g (q_remT rfl rfl hk4)⟩ ?_
  cases H
  exact .z (ih1 (n1,(Int.tdiv v0nl1 10,([UInt8.ofInt (48+(Int.tmod v0nl1 10))]:List UInt8)++v3sl1)) HK1 hm1) rfl rfl
 ·refine .A 6 [] rfl trivial ?_
  refine .R func64 results64 rfl ?_
  cases H
  cases HK1
  exact .m rfl (.rfl' _)
theorem c_f_r09_Encode {v0:Record} {r:(List UInt8)×Int} (H:f_r09_Encode v0=some r):ACall prog 35 [.agg (Record.row v0)] (·=.tup [cS r.1,cI r.2]):=by
 refine ACall.enter' func35 rfl ntmps35 rfl fun S hS=>?_
 unfold f_r09_Encode at H
 obtain ⟨y1,hy1,H⟩:=bind_some' H
 refine .A 18 [.r 0,.i y1] rfl (g_call (en 85 rfl) rfl rfl (c_f_r09_Error (hy1))) ?_
 refine .ite H rfl (fun H=>?_) (fun H=>?_)
 ·refine .A 6 [] rfl trivial ?_
  refine .R func35 results35 rfl ?_
  cases H
  exact .m rfl (.tupD rfl)
 ·refine .A 9 [.p 4] rfl ((show drawB _ _=true by kernel_rfl)) ?_
  refine .seqJoin (ι:=List UInt8) (fun v6j1=>[(1,.ref 0 0),(5,.d (cS ([118,116,100,99]:List UInt8))),(6,.d (cS v6j1))]) (fun v6j1=>⟨[.row 49 [.d (cI v0.source),.d (cI v0.serial),.d (cI v0.kind),.d (cS v0.a),.d (cS v0.b),.d (cI v0.start),.d (cI v0.units),.d (cI v0.call),.d (cI v0.part),.d (cB v0.last),.d (cI v0.trunk),.d (cB v0.inbound)]],[]⟩) (fun s=>f_r09_Encode_j1 v0 s=some r) ?_ ?_
  ·rintro v6j1 H
   replace H:f_r09_Encode_j1 v0 v6j1=some r:=H
   unfold f_r09_Encode_j1 at H
   obtain ⟨hk1,H⟩:=ck_some H
   obtain ⟨hk2,H⟩:=ck_some H
   obtain ⟨hk3,H⟩:=ck_some H
   obtain ⟨y2,hy2,H⟩:=bind_some' H
   obtain ⟨hk4,H⟩:=ck_some H
   obtain ⟨hk5,H⟩:=ck_some H
   obtain ⟨y3,hy3,H⟩:=bind_some' H
   obtain ⟨hk6,H⟩:=ck_some H
   obtain ⟨hk7,H⟩:=ck_some H
   obtain ⟨hk8,H⟩:=ck_some H
   obtain ⟨hk9,H⟩:=ck_some H
   obtain ⟨hk10,H⟩:=ck_some H
   obtain ⟨hk11,H⟩:=ck_some H
   obtain ⟨y4,hy4,H⟩:=bind_some' H
   obtain ⟨hk12,H⟩:=ck_some H
   obtain ⟨hk13,H⟩:=ck_some H
   obtain ⟨y5,hy5,H⟩:=bind_some' H
   obtain ⟨hk14,H⟩:=ck_some H
   refine .A 39 [.p 35,.i (v0.kind-1),.s ((([118,116,100,99]:List UInt8).take v0.kind.toNat).drop (v0.kind-1).toNat),.s (((([118,116,100,99]:List UInt8).take v0.kind.toNat).drop (v0.kind-1).toNat)++([32]:List UInt8)),.s y2,.s ((((([118,116,100,99]:List UInt8).take v0.kind.toNat).drop (v0.kind-1).toNat)++([32]:List UInt8))++y2),.s (((((([118,116,100,99]:List UInt8).take v0.kind.toNat).drop (v0.kind-1).toNat)++([32]:List UInt8))++y2)++([32]:List UInt8)),.s y3,.s ((((((([118,116,100,99]:List UInt8).take v0.kind.toNat).drop (v0.kind-1).toNat)++([32]:List UInt8))++y2)++([32]:List UInt8))++y3),.s (((((((([118,116,100,99]:List UInt8).take v0.kind.toNat).drop (v0.kind-1).toNat)++([32]:List UInt8))++y2)++([32]:List UInt8))++y3)++([32]:List UInt8)),.s ((((((((([118,116,100,99]:List UInt8).take v0.kind.toNat).drop (v0.kind-1).toNat)++([32]:List UInt8))++y2)++([32]:List UInt8))++y3)++([32]:List UInt8))++v0.a),.s (((((((((([118,116,100,99]:List UInt8).take v0.kind.toNat).drop (v0.kind-1).toNat)++([32]:List UInt8))++y2)++([32]:List UInt8))++y3)++([32]:List UInt8))++v0.a)++([32]:List UInt8)),.s ((((((((((([118,116,100,99]:List UInt8).take v0.kind.toNat).drop (v0.kind-1).toNat)++([32]:List UInt8))++y2)++([32]:List UInt8))++y3)++([32]:List UInt8))++v0.a)++([32]:List UInt8))++v6j1),.s (((((((((((([118,116,100,99]:List UInt8).take v0.kind.toNat).drop (v0.kind-1).toNat)++([32]:List UInt8))++y2)++([32]:List UInt8))++y3)++([32]:List UInt8))++v0.a)++([32]:List UInt8))++v6j1)++([32]:List UInt8)),.s y4,.s ((((((((((((([118,116,100,99]:List UInt8).take v0.kind.toNat).drop (v0.kind-1).toNat)++([32]:List UInt8))++y2)++([32]:List UInt8))++y3)++([32]:List UInt8))++v0.a)++([32]:List UInt8))++v6j1)++([32]:List UInt8))++y4),.s (((((((((((((([118,116,100,99]:List UInt8).take v0.kind.toNat).drop (v0.kind-1).toNat)++([32]:List UInt8))++y2)++([32]:List UInt8))++y3)++([32]:List UInt8))++v0.a)++([32]:List UInt8))++v6j1)++([32]:List UInt8))++y4)++([32]:List UInt8)),.s y5,.s ((((((((((((((([118,116,100,99]:List UInt8).take v0.kind.toNat).drop (v0.kind-1).toNat)++([32]:List UInt8))++y2)++([32]:List UInt8))++y3)++([32]:List UInt8))++v0.a)++([32]:List UInt8))++v6j1)++([32]:List UInt8))++y4)++([32]:List UInt8))++y5)] rfl ⟨OpQ.g (q_sadd rfl rfl hk14),g_call (en 86 rfl) rfl rfl (c_f_r09_Number (hy5)),OpQ.g (q_sadd rfl rfl hk13),OpQ.g (q_sadd rfl rfl hk12),g_call (en 86 rfl) rfl rfl (c_f_r09_Number (hy4)),OpQ.g (q_sadd rfl rfl hk11),OpQ.g (q_sadd rfl rfl hk10),OpQ.g (q_sadd rfl rfl hk9),OpQ.g (q_sadd rfl rfl hk8),OpQ.g (q_sadd rfl rfl hk7),OpQ.g (q_sadd rfl rfl hk6),g_call (en 86 rfl) rfl rfl (c_f_r09_Number (hy3)),OpQ.g (q_sadd rfl rfl hk5),OpQ.g (q_sadd rfl rfl hk4),g_call (en 86 rfl) rfl rfl (c_f_r09_Number (hy2)),OpQ.g (q_sadd rfl rfl hk3),OpQ.g (q_strLHL underlying9 rfl rfl rfl hk2),g_subI rfl rfl hk1,(show drawB _ _=true by kernel_rfl)⟩ ?_
   refine .seqJoin (ι:=List UInt8) (fun v7j2=>[(1,.ref 0 0),(7,.d (cS v7j2))]) (fun v7j2=>⟨[.row 49 [.d (cI v0.source),.d (cI v0.serial),.d (cI v0.kind),.d (cS v0.a),.d (cS v0.b),.d (cI v0.start),.d (cI v0.units),.d (cI v0.call),.d (cI v0.part),.d (cB v0.last),.d (cI v0.trunk),.d (cB v0.inbound)]],[]⟩) (fun s=>f_r09_Encode_j2 v0 s=some r) ?_ ?_
   ·rintro v7j2 H
    replace H:f_r09_Encode_j2 v0 v7j2=some r:=H
    unfold f_r09_Encode_j2 at H
    refine .seqJoin (ι:=List UInt8) (fun v7j3=>[(1,.ref 0 0),(7,.d (cS v7j3))]) (fun v7j3=>⟨[.row 49 [.d (cI v0.source),.d (cI v0.serial),.d (cI v0.kind),.d (cS v0.a),.d (cS v0.b),.d (cI v0.start),.d (cI v0.units),.d (cI v0.call),.d (cI v0.part),.d (cB v0.last),.d (cI v0.trunk),.d (cB v0.inbound)]],[]⟩) (fun s=>f_r09_Encode_j3 v0 s=some r) ?_ ?_
    ·rintro v7j3 H
     replace H:f_r09_Encode_j3 v0 v7j3=some r:=H
     unfold f_r09_Encode_j3 at H
     refine .seqJoin (ι:=List UInt8) (fun v7j4=>[(1,.ref 0 0),(7,.d (cS v7j4))]) (fun v7j4=>⟨[.row 49 [.d (cI v0.source),.d (cI v0.serial),.d (cI v0.kind),.d (cS v0.a),.d (cS v0.b),.d (cI v0.start),.d (cI v0.units),.d (cI v0.call),.d (cI v0.part),.d (cB v0.last),.d (cI v0.trunk),.d (cB v0.inbound)]],[]⟩) (fun s=>f_r09_Encode_j4 v0 s=some r) ?_ ?_
     ·rintro v7j4 H
      replace H:f_r09_Encode_j4 v0 v7j4=some r:=H
      unfold f_r09_Encode_j4 at H
      refine .A 12 [] rfl ⟨rfl,rfl,rfl⟩ ?_
      refine .ite H rfl (fun H=>?_) (fun H=>?_)
      ·obtain ⟨hk15,H⟩:=ck_some H
       obtain ⟨y6,hy6,H⟩:=bind_some' H
       obtain ⟨hk16,H⟩:=ck_some H
       refine .A 15 [.s (v7j4++([32,111,117,116,32]:List UInt8)),.s y6,.s ((v7j4++([32,111,117,116,32]:List UInt8))++y6)] rfl ⟨OpQ.g (q_sadd rfl rfl hk16),g_call (en 86 rfl) rfl rfl (c_f_r09_Number (hy6)),OpQ.g (q_sadd rfl rfl hk15)⟩ ?_
       refine .R func35 results35 rfl ?_
       cases H
       exact .m rfl (.tupD rfl)
      ·refine .A 7 [] rfl trivial ?_
       refine .R func35 results35 rfl ?_
       cases H
       exact .m rfl (.tupD rfl)
     ·intro hj4
      refine .A 10 [] rfl ⟨rfl,rfl⟩ ?_
      refine .ite H rfl (fun H=>?_) (fun H=>?_)
      ·obtain ⟨hk17,H⟩:=ck_some H
       obtain ⟨y7,hy7,H⟩:=bind_some' H
       obtain ⟨hk18,H⟩:=ck_some H
       refine .A 9 [.s (v7j3++([32,105,110,32]:List UInt8)),.s y7,.s ((v7j3++([32,105,110,32]:List UInt8))++y7)] rfl ⟨OpQ.g (q_sadd rfl rfl hk18),g_call (en 86 rfl) rfl rfl (c_f_r09_Number (hy7)),OpQ.g (q_sadd rfl rfl hk17)⟩ ?_
       exact .z (hj4 ((v7j3++([32,105,110,32]:List UInt8))++y7) H) rfl rfl
      ·refine .A 1 [] rfl trivial ?_
       exact .z (hj4 v7j3 H) rfl rfl
    ·intro hj3
     refine .A 5 [] rfl trivial ?_
     refine .ite H rfl (fun H=>?_) (fun H=>?_)
     ·obtain ⟨hk19,H⟩:=ck_some H
      refine .A 5 [.s (v7j2++([32,108,97,115,116]:List UInt8))] rfl (OpQ.g (q_sadd rfl rfl hk19)) ?_
      exact .z (hj3 (v7j2++([32,108,97,115,116]:List UInt8)) H) rfl rfl
     ·refine .A 1 [] rfl trivial ?_
      exact .z (hj3 v7j2 H) rfl rfl
   ·intro hj2
    refine .A 6 [] rfl trivial ?_
    refine .ite H rfl (fun H=>?_) (fun H=>?_)
    ·obtain ⟨hk20,H⟩:=ck_some H
     obtain ⟨y8,hy8,H⟩:=bind_some' H
     obtain ⟨hk21,H⟩:=ck_some H
     obtain ⟨hk22,H⟩:=ck_some H
     obtain ⟨y9,hy9,H⟩:=bind_some' H
     obtain ⟨hk23,H⟩:=ck_some H
     refine .A 15 [.p 12,.s (((((((((((((((([118,116,100,99]:List UInt8).take v0.kind.toNat).drop (v0.kind-1).toNat)++([32]:List UInt8))++y2)++([32]:List UInt8))++y3)++([32]:List UInt8))++v0.a)++([32]:List UInt8))++v6j1)++([32]:List UInt8))++y4)++([32]:List UInt8))++y5)++([32,112,97,114,116,32]:List UInt8)),.s y8,.s ((((((((((((((((([118,116,100,99]:List UInt8).take v0.kind.toNat).drop (v0.kind-1).toNat)++([32]:List UInt8))++y2)++([32]:List UInt8))++y3)++([32]:List UInt8))++v0.a)++([32]:List UInt8))++v6j1)++([32]:List UInt8))++y4)++([32]:List UInt8))++y5)++([32,112,97,114,116,32]:List UInt8))++y8),.s (((((((((((((((((([118,116,100,99]:List UInt8).take v0.kind.toNat).drop (v0.kind-1).toNat)++([32]:List UInt8))++y2)++([32]:List UInt8))++y3)++([32]:List UInt8))++v0.a)++([32]:List UInt8))++v6j1)++([32]:List UInt8))++y4)++([32]:List UInt8))++y5)++([32,112,97,114,116,32]:List UInt8))++y8)++([32]:List UInt8)),.s y9,.s ((((((((((((((((((([118,116,100,99]:List UInt8).take v0.kind.toNat).drop (v0.kind-1).toNat)++([32]:List UInt8))++y2)++([32]:List UInt8))++y3)++([32]:List UInt8))++v0.a)++([32]:List UInt8))++v6j1)++([32]:List UInt8))++y4)++([32]:List UInt8))++y5)++([32,112,97,114,116,32]:List UInt8))++y8)++([32]:List UInt8))++y9)] rfl ⟨OpQ.g (q_sadd rfl rfl hk23),g_call (en 86 rfl) rfl rfl (c_f_r09_Number (hy9)),OpQ.g (q_sadd rfl rfl hk22),OpQ.g (q_sadd rfl rfl hk21),g_call (en 86 rfl) rfl rfl (c_f_r09_Number (hy8)),OpQ.g (q_sadd rfl rfl hk20),(show drawB _ _=true by kernel_rfl)⟩ ?_
     exact .z (hj2 ((((((((((((((((((([118,116,100,99]:List UInt8).take v0.kind.toNat).drop (v0.kind-1).toNat)++([32]:List UInt8))++y2)++([32]:List UInt8))++y3)++([32]:List UInt8))++v0.a)++([32]:List UInt8))++v6j1)++([32]:List UInt8))++y4)++([32]:List UInt8))++y5)++([32,112,97,114,116,32]:List UInt8))++y8)++([32]:List UInt8))++y9) H) rfl rfl
    ·refine .A 1 [] rfl trivial ?_
     exact .z (hj2 ((((((((((((((([118,116,100,99]:List UInt8).take v0.kind.toNat).drop (v0.kind-1).toNat)++([32]:List UInt8))++y2)++([32]:List UInt8))++y3)++([32]:List UInt8))++v0.a)++([32]:List UInt8))++v6j1)++([32]:List UInt8))++y4)++([32]:List UInt8))++y5) H) rfl rfl
  ·intro hj1
   refine .A 5 [] rfl trivial ?_
   refine .ite H rfl (fun H=>?_) (fun H=>?_)
   ·refine .A 3 [] rfl trivial ?_
    exact .z (hj1 ([45]:List UInt8) H) rfl rfl
   ·refine .A 1 [] rfl trivial ?_
    exact .z (hj1 v0.b H) rfl rfl
set_option maxRecDepth 100000
set_option maxHeartbeats 1000000
theorem c_f_r11_sum {v0b:List UInt8} {r:UInt8} (H:f_r11_sum v0b=some r):ACall prog 71 [slOf 1 rB8 v0b] (·=cU8 r):=by
 refine ACall.enter' func71 rfl ntmps71 rfl fun S hS=>?_
 unfold f_r11_sum at H
 refine .A 14 [] rfl trivial ?_
 obtain ⟨n1,H⟩:=loop_some H
 refine .loop (ι:=Nat×(Int×Int)) (fun ⟨_,v3nl1,v4il1⟩=>[(0,.d (slOf 1 rB8 v0b)),(3,.d (cI v3nl1)),(4,.d (cI v4il1))]) (fun ⟨_,v3nl1,v4il1⟩=>⟨[],[]⟩) (fun p=>iter (fun s=>f_r11_sum_l1 v0b s.1 s.2) p.1 p.2=some r) (·.1) (n1,(0,0)) H (.cons rfl (.rfl' _) (.cons rfl (.rfl' _) (.cons rfl (.rfl' _) (.nil)))) rfl ?_
 rintro ⟨m1,v3nl1,v4il1⟩ HI ih1
 obtain ⟨n1,q1,hm1,H,HK1⟩:=iter_succ HI
 clear HI
 replace H:f_r11_sum_l1 v0b v3nl1 v4il1=some q1:=H
 unfold f_r11_sum_l1 at H
 refine .A 8 [.i (v0b.length:Int)] rfl (s22.n rfl rfl) ?_
 refine .ite H rfl (fun H=>?_) (fun H=>?_)
 ·obtain ⟨hk1,H⟩:=ck_some H
  obtain ⟨hk2,H⟩:=ck_some H
  obtain ⟨hk3,H⟩:=ck_some H
  obtain ⟨hk4,H⟩:=ck_some H
  refine .A 20 [.d (.ro (rB8 (nth v0b v4il1.toNat))),.i ((nth v0b v4il1.toNat).toNat:Int),.i (v3nl1+((nth v0b v4il1.toNat).toNat:Int)),.i (Int.tmod (v3nl1+((nth v0b v4il1.toNat).toNat:Int)) 256),.i (v4il1+1)] rfl ⟨g_addI rfl rfl hk4,OpQ.g (q_remT rfl rfl hk3),g_addI rfl rfl hk2,OpQ.g (q_conv8i (a:=nth v0b v4il1.toNat) underlying5 underlying3 rfl),s22.ix rfl rfl rfl hk1⟩ ?_
  cases H
  exact .z (ih1 (n1,(Int.tmod (v3nl1+((nth v0b v4il1.toNat).toNat:Int)) 256,v4il1+1)) HK1 hm1) rfl rfl
 ·refine .A 7 [.c (UInt8.ofInt v3nl1)] rfl (OpQ.g (q_conv8 underlying3 underlying5 rfl)) ?_
  refine .R func71 results71 rfl ?_
  cases H
  cases HK1
  exact .m rfl (.rfl' _)
set_option maxRecDepth 100000
set_option maxHeartbeats 1000000
theorem c_f_r12_Totals {v0records:List Record} {r:Totals} (H:f_r12_Totals v0records=some r):ACall prog 27 [slOf 12 Record.row v0records] (·=.agg (Totals.row r)):=by
 obtain ⟨i3,hi3,hz3,hs3,hb3⟩:=in_3
 obtain ⟨i52,hi52,hz52,hs52,hb52⟩:=in_52
 refine ACall.enter' func27 rfl ntmps27 rfl fun S hS=>?_
 unfold f_r12_Totals at H
 refine .A 18 [.r 0,.i (v0records.length:Int),.d (.agg (Totals.row (⟨(v0records.length:Int),([0,0,0,0,0]:List Int)⟩:Totals))),.r 1] rfl ⟨OpQ.g (q_buildP pl_52 hi52 hz52 rfl rfl),s29.n rfl rfl⟩ ?_
 obtain ⟨n1,H⟩:=loop_some H
 refine .loop (ι:=Nat×(Int×Int×Int×Int×Int×Int)) (fun ⟨_,v4il1,o1c1l1,o1c2l1,o1c3l1,o1c4l1,o1c5l1⟩=>[(0,.d (slOf 12 Record.row v0records)),(2,.ref 0 0),(3,.ref 1 0),(4,.d (cI v4il1))]) (fun ⟨_,v4il1,o1c1l1,o1c2l1,o1c3l1,o1c4l1,o1c5l1⟩=>⟨[.row 52 [.d (cI 0),.d (cI 0),.d (cI 0),.d (cI 0),.d (cI 0),.d (cI 0)],.row 52 [.d (cI (v0records.length:Int)),.d (cI o1c1l1),.d (cI o1c2l1),.d (cI o1c3l1),.d (cI o1c4l1),.d (cI o1c5l1)]],[]⟩) (fun p=>iter (fun s=>f_r12_Totals_l1 v0records s.1 s.2.1 s.2.2.1 s.2.2.2.1 s.2.2.2.2.1 s.2.2.2.2.2) p.1 p.2=some r) (·.1) (n1,(0,0,0,0,0,0)) H (.cons rfl (.rfl' _) (.cons rfl (.rfl' _) (.cons rfl (.rfl' _) (.cons rfl (.rfl' _) (.nil))))) rfl ?_
 rintro ⟨m1,v4il1,o1c1l1,o1c2l1,o1c3l1,o1c4l1,o1c5l1⟩ HI ih1
 obtain ⟨n1,q1,hm1,H,HK1⟩:=iter_succ HI
 clear HI
 replace H:f_r12_Totals_l1 v0records v4il1 o1c1l1 o1c2l1 o1c3l1 o1c4l1 o1c5l1=some q1:=H
 unfold f_r12_Totals_l1 at H
 refine .A 8 [.i (v0records.length:Int)] rfl (s29.n rfl rfl) ?_
 refine .ite H rfl (fun H=>?_) (fun H=>?_)
 ·obtain ⟨hk1,H⟩:=ck_some H
  refine .A 33 [.d (.ro (Record.row (nth v0records v4il1.toNat))),.r 2] rfl ⟨rfl,rfl,rfl,rfl,rfl,rfl,rfl,rfl,rfl,s29.ix rfl rfl rfl hk1⟩ ?_
  refine .ite H rfl (fun H=>?_) (fun H=>?_)
  ·obtain ⟨hk2,H⟩:=ck_some H
   obtain ⟨hk3,H⟩:=ck_some H
   obtain ⟨hk4,H⟩:=ck_some H
   obtain ⟨hk5,H⟩:=ck_some H
   obtain ⟨hk6,H⟩:=ck_some H
   obtain ⟨hk7,H⟩:=ck_some H
   refine .A 22 [.p 12,.g (.ref 1 (1+((nth v0records v4il1.toNat).kind).toNat)),.f 15 (.d (cI (nth ([o1c1l1,o1c2l1,o1c3l1,o1c4l1,o1c5l1]:List Int) ((nth v0records v4il1.toNat).kind).toNat))),.i ((nth ([o1c1l1,o1c2l1,o1c3l1,o1c4l1,o1c5l1]:List Int) ((nth v0records v4il1.toNat).kind).toNat)+((nth v0records v4il1.toNat).units)),.g (.ref 1 (1+((nth v0records v4il1.toNat).kind).toNat)),.w 8 ⟨[.row 52 [.d (cI 0),.d (cI 0),.d (cI 0),.d (cI 0),.d (cI 0),.d (cI 0)],.row 52 [.d (cI (v0records.length:Int)),.d (cI (nth (setN ([o1c1l1,o1c2l1,o1c3l1,o1c4l1,o1c5l1]:List Int) 5 ((nth v0records v4il1.toNat).kind).toNat ((nth ([o1c1l1,o1c2l1,o1c3l1,o1c4l1,o1c5l1]:List Int) ((nth v0records v4il1.toNat).kind).toNat)+((nth v0records v4il1.toNat).units))) 0)),.d (cI (nth (setN ([o1c1l1,o1c2l1,o1c3l1,o1c4l1,o1c5l1]:List Int) 5 ((nth v0records v4il1.toNat).kind).toNat ((nth ([o1c1l1,o1c2l1,o1c3l1,o1c4l1,o1c5l1]:List Int) ((nth v0records v4il1.toNat).kind).toNat)+((nth v0records v4il1.toNat).units))) 1)),.d (cI (nth (setN ([o1c1l1,o1c2l1,o1c3l1,o1c4l1,o1c5l1]:List Int) 5 ((nth v0records v4il1.toNat).kind).toNat ((nth ([o1c1l1,o1c2l1,o1c3l1,o1c4l1,o1c5l1]:List Int) ((nth v0records v4il1.toNat).kind).toNat)+((nth v0records v4il1.toNat).units))) 2)),.d (cI (nth (setN ([o1c1l1,o1c2l1,o1c3l1,o1c4l1,o1c5l1]:List Int) 5 ((nth v0records v4il1.toNat).kind).toNat ((nth ([o1c1l1,o1c2l1,o1c3l1,o1c4l1,o1c5l1]:List Int) ((nth v0records v4il1.toNat).kind).toNat)+((nth v0records v4il1.toNat).units))) 3)),.d (cI (nth (setN ([o1c1l1,o1c2l1,o1c3l1,o1c4l1,o1c5l1]:List Int) 5 ((nth v0records v4il1.toNat).kind).toNat ((nth ([o1c1l1,o1c2l1,o1c3l1,o1c4l1,o1c5l1]:List Int) ((nth v0records v4il1.toNat).kind).toNat)+((nth v0records v4il1.toNat).units))) 4))],.row 49 [.d (cI ((nth v0records v4il1.toNat).source)),.d (cI ((nth v0records v4il1.toNat).serial)),.d (cI ((nth v0records v4il1.toNat).kind)),.d (cS ((nth v0records v4il1.toNat).a)),.d (cS ((nth v0records v4il1.toNat).b)),.d (cI ((nth v0records v4il1.toNat).start)),.d (cI ((nth v0records v4il1.toNat).units)),.d (cI ((nth v0records v4il1.toNat).call)),.d (cI ((nth v0records v4il1.toNat).part)),.d (cB ((nth v0records v4il1.toNat).last)),.d (cI ((nth v0records v4il1.toNat).trunk)),.d (cB ((nth v0records v4il1.toNat).inbound))]],[]⟩,.i (v4il1+1)] rfl ⟨g_addI rfl rfl hk7,.e (u_storeK (n:=5) (off:=1) (i:=((nth v0records v4il1.toNat).kind).toNat) (l:=([o1c1l1,o1c2l1,o1c3l1,o1c4l1,o1c5l1]:List Int)) (c1:=cI) (a:=(nth ([o1c1l1,o1c2l1,o1c3l1,o1c4l1,o1c5l1]:List Int) ((nth v0records v4il1.toNat).kind).toNat)+((nth v0records v4il1.toNat).units)) rfl rfl rfl rfl rfl hk6 sz_3) rfl,OpQ.g (q_idxK (off:=1) (i:=(nth v0records v4il1.toNat).kind) underlying50 ⟨_,hi3,hs3⟩ rfl rfl hk5),g_addI rfl rfl hk4,OpQ.g (q_loadK (n:=5) (off:=1) (i:=((nth v0records v4il1.toNat).kind).toNat) (l:=([o1c1l1,o1c2l1,o1c3l1,o1c4l1,o1c5l1]:List Int)) (c1:=cI) one_3 rfl rfl rfl hk3),OpQ.g (q_idxK (off:=1) (i:=(nth v0records v4il1.toNat).kind) underlying50 ⟨_,hi3,hs3⟩ rfl rfl hk2),(show drawB _ _=true by kernel_rfl)⟩ ?_
   cases H
   exact .t 2 0 (ih1 (n1,(v4il1+1,nth (setN ([o1c1l1,o1c2l1,o1c3l1,o1c4l1,o1c5l1]:List Int) 5 ((nth v0records v4il1.toNat).kind).toNat ((nth ([o1c1l1,o1c2l1,o1c3l1,o1c4l1,o1c5l1]:List Int) ((nth v0records v4il1.toNat).kind).toNat)+((nth v0records v4il1.toNat).units))) 0,nth (setN ([o1c1l1,o1c2l1,o1c3l1,o1c4l1,o1c5l1]:List Int) 5 ((nth v0records v4il1.toNat).kind).toNat ((nth ([o1c1l1,o1c2l1,o1c3l1,o1c4l1,o1c5l1]:List Int) ((nth v0records v4il1.toNat).kind).toNat)+((nth v0records v4il1.toNat).units))) 1,nth (setN ([o1c1l1,o1c2l1,o1c3l1,o1c4l1,o1c5l1]:List Int) 5 ((nth v0records v4il1.toNat).kind).toNat ((nth ([o1c1l1,o1c2l1,o1c3l1,o1c4l1,o1c5l1]:List Int) ((nth v0records v4il1.toNat).kind).toNat)+((nth v0records v4il1.toNat).units))) 2,nth (setN ([o1c1l1,o1c2l1,o1c3l1,o1c4l1,o1c5l1]:List Int) 5 ((nth v0records v4il1.toNat).kind).toNat ((nth ([o1c1l1,o1c2l1,o1c3l1,o1c4l1,o1c5l1]:List Int) ((nth v0records v4il1.toNat).kind).toNat)+((nth v0records v4il1.toNat).units))) 3,nth (setN ([o1c1l1,o1c2l1,o1c3l1,o1c4l1,o1c5l1]:List Int) 5 ((nth v0records v4il1.toNat).kind).toNat ((nth ([o1c1l1,o1c2l1,o1c3l1,o1c4l1,o1c5l1]:List Int) ((nth v0records v4il1.toNat).kind).toNat)+((nth v0records v4il1.toNat).units))) 4)) HK1 hm1) rfl rfl rfl rfl rfl hS rfl
  ·obtain ⟨hk8,H⟩:=ck_some H
   refine .A 7 [.i (v4il1+1)] rfl (g_addI rfl rfl hk8) ?_
   cases H
   exact .t 2 0 (ih1 (n1,(v4il1+1,o1c1l1,o1c2l1,o1c3l1,o1c4l1,o1c5l1)) HK1 hm1) rfl rfl rfl rfl rfl hS rfl
 ·refine .A 6 [] rfl trivial ?_
  refine .R func27 results27 rfl ?_
  cases H
  cases HK1
  exact .m rfl (.rfl' _)
theorem c_f_r09_Same {v0a:List Record} {v1b:List Record} {r:Bool} (H:f_r09_Same v0a v1b=some r):ACall prog 28 [slOf 12 Record.row v0a,slOf 12 Record.row v1b] (·=cB r):=by
 refine ACall.enter' func28 rfl ntmps28 rfl fun S hS=>?_
 unfold f_r09_Same at H
 refine .A 13 [.i (v0a.length:Int),.i (v1b.length:Int)] rfl ⟨s29.n rfl rfl,s29.n rfl rfl⟩ ?_
 refine .ite H rfl (fun H=>?_) (fun H=>?_)
 ·refine .A 4 [] rfl trivial ?_
  refine .R func28 results28 rfl ?_
  cases H
  exact .m rfl (.rfl' _)
 ·refine .A 7 [] rfl trivial ?_
  obtain ⟨n1,H⟩:=loop_some H
  refine .loop (ι:=Nat×(Int)) (fun ⟨_,v5il1⟩=>[(0,.d (slOf 12 Record.row v0a)),(1,.d (slOf 12 Record.row v1b)),(5,.d (cI v5il1))]) (fun ⟨_,v5il1⟩=>⟨[],[]⟩) (fun p=>iter (fun s=>f_r09_Same_l1 v0a v1b s) p.1 p.2=some r) (·.1) (n1,0) H (.cons rfl (.rfl' _) (.cons rfl (.rfl' _) (.cons rfl (.rfl' _) (.nil)))) rfl ?_
  rintro ⟨m1,v5il1⟩ HI ih1
  obtain ⟨n1,q1,hm1,H,HK1⟩:=iter_succ HI
  clear HI
  replace H:f_r09_Same_l1 v0a v1b v5il1=some q1:=H
  unfold f_r09_Same_l1 at H
  refine .A 8 [.i (v0a.length:Int)] rfl (s29.n rfl rfl) ?_
  refine .ite H rfl (fun H=>?_) (fun H=>?_)
  ·obtain ⟨hk1,H⟩:=ck_some H
   obtain ⟨hk2,H⟩:=ck_some H
   refine .A 16 [.p 9,.d (.ro (Record.row (nth v0a v5il1.toNat))),.d (.ro (Record.row (nth v1b v5il1.toNat))),.b (!(eqVs (Record.vals (nth v0a v5il1.toNat)) (Record.vals (nth v1b v5il1.toNat))))] rfl ⟨OpQ.g (q_stneq fk_49 rfl rfl (xs:=Record.vals (nth v0a v5il1.toNat)) (ys:=Record.vals (nth v1b v5il1.toNat)) rfl rfl rfl rfl),s29.ix rfl rfl rfl hk2,s29.ix rfl rfl rfl hk1,(show drawB _ _=true by kernel_rfl)⟩ ?_
   refine .ite H rfl (fun H=>?_) (fun H=>?_)
   ·refine .A 4 [] rfl trivial ?_
    refine .R func28 results28 rfl ?_
    cases H
    cases HK1
    exact .m rfl (.rfl' _)
   ·obtain ⟨hk3,H⟩:=ck_some H
    refine .A 7 [.i (v5il1+1)] rfl (g_addI rfl rfl hk3) ?_
    cases H
    exact .z (ih1 (n1,(v5il1+1)) HK1 hm1) rfl rfl
  ·refine .A 5 [] rfl trivial ?_
   refine .R func28 results28 rfl ?_
   cases H
   cases HK1
   exact .m rfl (.rfl' _)
theorem c_f_r12_Same {v0a:Batch} {v1b:Batch} {r:Bool} (H:f_r12_Same v0a v1b=some r):ACall prog 11 [.agg (Batch.row v0a),.agg (Batch.row v1b)] (·=cB r):=by
 refine ACall.enter' func11 rfl ntmps11 rfl fun S hS=>?_
 unfold f_r12_Same at H
 obtain ⟨y1,hy1,H⟩:=bind_some' H
 refine .A 36 [.r 0,.r 1,.b y1] rfl ⟨rfl,fun hg=>g_call (en 107 rfl) rfl rfl (c_f_r09_Same (gcall_some hy1 hg)),rfl,rfl,rfl,rfl,rfl,rfl,rfl,rfl,rfl,rfl,rfl,rfl,rfl,rfl⟩ ?_
 refine .R func11 results11 rfl ?_
 cases H
 exact .m rfl (.rfl' _)
theorem c_f_w12_few {v0l:List Record} {r:Bool} (H:f_w12_few v0l=some r):ACall prog 13 [slOf 12 Record.row v0l] (·=cB r):=by
 refine ACall.enter' func13 rfl ntmps13 rfl fun S hS=>?_
 unfold f_w12_few at H
 refine .A 9 [] rfl trivial ?_
 refine .blockJoin2 (ι:=Unit) (fun _=>[(0,.d (slOf 12 Record.row v0l))]) (fun _=>⟨[],[]⟩) (fun s=>f_w12_few_j1 v0l=some r) ?_ ?_
 ·rintro _ H
  replace H:f_w12_few_j1 v0l=some r:=H
  unfold f_w12_few_j1 at H
  refine .A 7 [.i (v0l.length:Int)] rfl (s29.n rfl rfl) ?_
  refine .R func13 results13 rfl ?_
  cases H
  exact .m rfl (.rfl' _)
 ·intro hj1 hj1x
  obtain ⟨n1,H⟩:=loop_some H
  refine .loop (ι:=Nat×(Int)) (fun ⟨_,v3il1⟩=>[(0,.d (slOf 12 Record.row v0l)),(3,.d (cI v3il1))]) (fun ⟨_,v3il1⟩=>⟨[],[]⟩) (fun p=>iter (fun s=>f_w12_few_l1 v0l s) p.1 p.2=some r) (·.1) (n1,0) H (.cons rfl (.rfl' _) (.cons rfl (.rfl' _) (.nil))) rfl ?_
  rintro ⟨m1,v3il1⟩ HI ih1
  obtain ⟨n1,q1,hm1,H,HK1⟩:=iter_succ HI
  clear HI
  replace H:f_w12_few_l1 v0l v3il1=some q1:=H
  unfold f_w12_few_l1 at H
  refine .A 12 [.i (v0l.length:Int)] rfl ⟨rfl,rfl,s29.n rfl rfl⟩ ?_
  refine .ite H rfl (fun H=>?_) (fun H=>?_)
  ·obtain ⟨hk1,H⟩:=ck_some H
   obtain ⟨hk2,H⟩:=ck_some H
   refine .A 22 [.d (.ro (Record.row (nth v0l v3il1.toNat))),.i (((nth v0l v3il1.toNat).a).length:Int),.d (.ro (Record.row (nth v0l v3il1.toNat))),.i (((nth v0l v3il1.toNat).b).length:Int)] rfl ⟨rfl,rfl,fun hg=>OpQ.g (q_lenS underlying9 rfl),rfl,rfl,rfl,fun hg=>s29.ix rfl rfl rfl (hk2 hg),rfl,rfl,OpQ.g (q_lenS underlying9 rfl),s29.ix rfl rfl rfl hk1⟩ ?_
   refine .ite H rfl (fun H=>?_) (fun H=>?_)
   ·refine .A 4 [] rfl trivial ?_
    refine .R func13 results13 rfl ?_
    cases H
    cases HK1
    exact .m rfl (.rfl' _)
   ·obtain ⟨hk3,H⟩:=ck_some H
    refine .A 7 [.i (v3il1+1)] rfl (g_addI rfl rfl hk3) ?_
    cases H
    exact .z (ih1 (n1,(v3il1+1)) HK1 hm1) rfl rfl
  ·refine .A 1 [] rfl trivial ?_
   obtain ⟨q0,H9,hq0⟩:=map_some' H; clear H; cases hq0
   cases HK1
   have H:=H9
   exact .z (hj1x () H) rfl rfl
theorem c_f_r02_Pack {v0s:List UInt8} {r:(List UInt8)×Int} (H:f_r02_Pack v0s=some r):ACall prog 65 [cS v0s] (·=.tup [slOf 1 rB8 r.1,cI r.2]):=by
 obtain ⟨i5,hi5,hz5,hs5,hb5⟩:=in_5
 refine ACall.enter' func65 rfl ntmps65 rfl fun S hS=>?_
 unfold f_r02_Pack at H
 obtain ⟨y1,hy1,H⟩:=bind_some' H
 refine .A 12 [.b y1] rfl (g_call (en 84 rfl) rfl rfl (c_f_r02_Valid (hy1))) ?_
 refine .ite H rfl (fun H=>?_) (fun H=>?_)
 ·refine .A 5 [] rfl trivial ?_
  refine .R func65 results65 rfl ?_
  cases H
  exact .m rfl (.tupL ⟨.nil 1,.rfl' _,trivial⟩)
 ·refine .A 12 [.n (.tsl 1 (([]:List UInt8).map rB8) 0) ⟨5,1,([]:List UInt8).length,none⟩] rfl (.e (v_build0T underlying22 hi5 hs5) rfl) ?_
  obtain ⟨n1,H⟩:=loop_some H
  refine .loop (ι:=Nat×(List UInt8×Int)) (fun ⟨_,v4outl1,v5il1⟩=>[(0,.d (cS v0s)),(4,.tsl 1 (v4outl1.map rB8) 0),(5,.d (cI v5il1))]) (fun ⟨_,v4outl1,v5il1⟩=>⟨[],[⟨5,1,v4outl1.length,none⟩]⟩) (fun p=>iter (fun s=>f_r02_Pack_l1 v0s s.1 s.2) p.1 p.2=some r) (·.1) (n1,(([]:List UInt8),0)) H (.cons rfl (.rfl' _) (.cons rfl (.rfl' _) (.cons rfl (.rfl' _) (.nil)))) rfl ?_
  rintro ⟨m1,v4outl1,v5il1⟩ HI ih1
  obtain ⟨n1,q1,hm1,H,HK1⟩:=iter_succ HI
  clear HI
  replace H:f_r02_Pack_l1 v0s v4outl1 v5il1=some q1:=H
  unfold f_r02_Pack_l1 at H
  refine .A 8 [.i (v0s.length:Int)] rfl (OpQ.g (q_lenS underlying9 rfl)) ?_
  refine .ite H rfl (fun H=>?_) (fun H=>?_)
  ·refine .A 7 [] rfl trivial ?_
   refine .seqJoin (ι:=UInt8) (fun v6lowj1=>[(0,.d (cS v0s)),(4,.tsl 1 (v4outl1.map rB8) 0),(5,.d (cI v5il1)),(6,.d (cU8 v6lowj1))]) (fun v6lowj1=>⟨[],[⟨5,1,v4outl1.length,none⟩]⟩) (fun s=>f_r02_Pack_j1 v0s v4outl1 v5il1 s=some q1) ?_ ?_
   ·rintro v6lowj1 H
    replace H:f_r02_Pack_j1 v0s v4outl1 v5il1 v6lowj1=some q1:=H
    unfold f_r02_Pack_j1 at H
    obtain ⟨hk1,H⟩:=ck_some H
    obtain ⟨hk2,H⟩:=ck_some H
    obtain ⟨hk3,H⟩:=ck_some H
    obtain ⟨hk4,H⟩:=ck_some H
    refine .A 19 [.c (nth v0s v5il1.toNat),.c ((nth v0s v5il1.toNat) - 48),.c (u8shl ((nth v0s v5il1.toNat) - 48) 4),.c ((u8shl ((nth v0s v5il1.toNat) - 48) 4) ||| v6lowj1),.d (slOf 1 rB8 ([(u8shl ((nth v0s v5il1.toNat) - 48) 4) ||| v6lowj1]:List UInt8)),.a 0 5 1 rB8 (v4outl1++([(u8shl ((nth v0s v5il1.toNat) - 48) 4) ||| v6lowj1]:List UInt8)),.i (v5il1+2)] rfl ⟨g_addI rfl rfl hk4,s22.a rfl rfl rfl rfl hk3,g_buildSlice1 underlying22 hi5 hs5 hz5 rfl rfl rfl rfl rfl,OpQ.g (q8_or (a:=u8shl ((nth v0s v5il1.toNat) - 48) 4) (b:=v6lowj1) rfl rfl),OpQ.g (q8_shl (a:=(nth v0s v5il1.toNat) - 48) (n:=4) rfl rfl hk2),OpQ.g (q8_sub (a:=nth v0s v5il1.toNat) (b:=48) rfl rfl),OpQ.g (q_indexL (i:=v5il1) underlying9 rfl rfl hk1)⟩ ?_
    cases H
    exact .z (ih1 (n1,(v4outl1++([(u8shl ((nth v0s v5il1.toNat) - 48) 4) ||| v6lowj1]:List UInt8),v5il1+2)) HK1 hm1) rfl rfl
   ·intro hj1
    obtain ⟨hk5,H⟩:=ck_some H
    refine .A 8 [.i (v5il1+1),.i (v0s.length:Int)] rfl ⟨OpQ.g (q_lenS underlying9 rfl),g_addI rfl rfl hk5⟩ ?_
    refine .ite H rfl (fun H=>?_) (fun H=>?_)
    ·obtain ⟨hk6,H⟩:=ck_some H
     obtain ⟨hk7,H⟩:=ck_some H
     refine .A 8 [.i (v5il1+1),.c (nth v0s (v5il1+1).toNat),.c ((nth v0s (v5il1+1).toNat) - 48)] rfl ⟨OpQ.g (q8_sub (a:=nth v0s (v5il1+1).toNat) (b:=48) rfl rfl),OpQ.g (q_indexL (i:=v5il1+1) underlying9 rfl rfl hk7),g_addI rfl rfl hk6⟩ ?_
     exact .z (hj1 ((nth v0s (v5il1+1).toNat) - 48) H) rfl rfl
    ·refine .A 1 [] rfl trivial ?_
     exact .z (hj1 15 H) rfl rfl
  ·refine .A 7 [] rfl trivial ?_
   refine .R func65 results65 rfl ?_
   cases H
   cases HK1
   exact .m rfl (.tupL ⟨.tsl _ _ _,.rfl' _,trivial⟩)
theorem c_f_r10_shortest {v0n:Int} {r:(List UInt8)} (H:f_r10_shortest v0n=some r):ACall prog 66 [cI v0n] (·=slOf 1 rB8 r):=by
 obtain ⟨i5,hi5,hz5,hs5,hb5⟩:=in_5
 refine ACall.enter' func66 rfl ntmps66 rfl fun S hS=>?_
 unfold f_r10_shortest at H
 refine .A 10 [] rfl trivial ?_
 obtain ⟨n1,H⟩:=loop_some H
 refine .loop (ι:=Nat×(Int×List UInt8)) (fun ⟨_,v0nl1,v3outl1⟩=>[(0,.d (cI v0nl1)),(3,.d (slOf 1 rB8 v3outl1))]) (fun ⟨_,v0nl1,v3outl1⟩=>⟨[],[]⟩) (fun p=>iter (fun s=>f_r10_shortest_l1 s.1 s.2) p.1 p.2=some r) (·.1) (n1,(v0n,[])) H (.cons rfl (.rfl' _) (.cons rfl (.nil 1) (.nil))) rfl ?_
 rintro ⟨m1,v0nl1,v3outl1⟩ HI ih1
 obtain ⟨n1,q1,hm1,H,HK1⟩:=iter_succ HI
 clear HI
 replace H:f_r10_shortest_l1 v0nl1 v3outl1=some q1:=H
 unfold f_r10_shortest_l1 at H
 refine .A 6 [] rfl trivial ?_
 refine .ite H rfl (fun H=>?_) (fun H=>?_)
 ·obtain ⟨hk1,H⟩:=ck_some H
  obtain ⟨hk2,H⟩:=ck_some H
  obtain ⟨hk3,H⟩:=ck_some H
  refine .A 18 [.i (Int.tmod v0nl1 256),.c (UInt8.ofInt (Int.tmod v0nl1 256)),.n (.tsl 1 (([UInt8.ofInt (Int.tmod v0nl1 256)]:List UInt8).map rB8) 0) ⟨5,1,([UInt8.ofInt (Int.tmod v0nl1 256)]:List UInt8).length,none⟩,.a 0 5 1 rB8 (([UInt8.ofInt (Int.tmod v0nl1 256)]:List UInt8)++v3outl1),.i (Int.tdiv v0nl1 256)] rfl ⟨OpQ.g (q_quoT rfl rfl hk3),s22.a rfl rfl rfl rfl hk2,.e (v_buildSliceT (n:=1) underlying22 hi5 hs5 hz5 rfl rfl rfl rfl rfl) rfl,OpQ.g (q_conv8 underlying3 underlying5 rfl),OpQ.g (q_remT rfl rfl hk1)⟩ ?_
  cases H
  exact .to 0 0 (env':=[(0,.d (cI (Int.tdiv v0nl1 256))),(3,.d (slOf 1 rB8 (([UInt8.ofInt (Int.tmod v0nl1 256)]:List UInt8)++v3outl1)))]) (st':=⟨[],[]⟩) (.cons rfl (.rfl' _) (.cons rfl (.tsl _ _ _) .nil)) rfl rfl rfl rfl rfl (by rw [hS]; exact Nat.le_of_ble_eq_true rfl) (by rw [hS]; exact Nat.le_of_ble_eq_true rfl) <| .sub (.cons rfl (.rfl' _) (.cons rfl (.rfl' _) (.nil))) (ih1 (n1,(Int.tdiv v0nl1 256,([UInt8.ofInt (Int.tmod v0nl1 256)]:List UInt8)++v3outl1)) HK1 hm1)
 ·refine .A 6 [] rfl trivial ?_
  refine .R func66 results66 rfl ?_
  cases H
  cases HK1
  exact .m rfl (.rfl' _)
theorem c_f_r10_flags {v0r:Record} {r:Int} (H:f_r10_flags v0r=some r):ACall prog 67 [.agg (Record.row v0r)] (·=cI r):=by
 refine ACall.enter' func67 rfl ntmps67 rfl fun S hS=>?_
 unfold f_r10_flags at H
 refine .A 9 [.r 0] rfl trivial ?_
 refine .seqJoin (ι:=Int) (fun v3nj1=>[(1,.ref 0 0),(3,.d (cI v3nj1))]) (fun v3nj1=>⟨[.row 49 [.d (cI v0r.source),.d (cI v0r.serial),.d (cI v0r.kind),.d (cS v0r.a),.d (cS v0r.b),.d (cI v0r.start),.d (cI v0r.units),.d (cI v0r.call),.d (cI v0r.part),.d (cB v0r.last),.d (cI v0r.trunk),.d (cB v0r.inbound)]],[]⟩) (fun s=>f_r10_flags_j1 v0r s=some r) ?_ ?_
 ·rintro v3nj1 H
  replace H:f_r10_flags_j1 v0r v3nj1=some r:=H
  unfold f_r10_flags_j1 at H
  refine .A 6 [] rfl trivial ?_
  refine .ite H rfl (fun H=>?_) (fun H=>?_)
  ·obtain ⟨hk1,H⟩:=ck_some H
   refine .A 10 [.i (v3nj1+2)] rfl (g_addI rfl rfl hk1) ?_
   refine .R func67 results67 rfl ?_
   cases H
   exact .m rfl (.rfl' _)
  ·refine .A 6 [] rfl trivial ?_
   refine .R func67 results67 rfl ?_
   cases H
   exact .m rfl (.rfl' _)
 ·intro hj1
  refine .A 5 [] rfl trivial ?_
  refine .ite H rfl (fun H=>?_) (fun H=>?_)
  ·obtain ⟨hk2,H⟩:=ck_some H
   refine .A 5 [.i (0+1)] rfl (g_addI rfl rfl hk2) ?_
   exact .z (hj1 (0+1) H) rfl rfl
  ·refine .A 1 [] rfl trivial ?_
   exact .z (hj1 0 H) rfl rfl
set_option maxRecDepth 100000
set_option maxHeartbeats 1000000
theorem c_f_r10_Build {v0list:List Element} {r:(List UInt8)×Int} (H:f_r10_Build v0list=some r):ACall prog 68 [slOf 2 Element.row v0list] (·=.tup [slOf 1 rB8 r.1,cI r.2]):=by
 obtain ⟨i5,hi5,hz5,hs5,hb5⟩:=in_5
 refine ACall.enter' func68 rfl ntmps68 rfl fun S hS=>?_
 unfold f_r10_Build at H
 refine .A 19 [] rfl trivial ?_
 refine .tok (i:=4) (e:=5) (sz:=1) rfl ?_
 obtain ⟨n1,H⟩:=loop_some H
 refine .loop (ι:=Nat×(List UInt8×Int×Int)) (fun ⟨_,v4outl1,v5lastl1,v6il1⟩=>[(0,.d (slOf 2 Element.row v0list)),(4,.tsl 1 (v4outl1.map rB8) 0),(5,.d (cI v5lastl1)),(6,.d (cI v6il1))]) (fun ⟨_,v4outl1,v5lastl1,v6il1⟩=>⟨[],[⟨5,1,v4outl1.length,none⟩]⟩) (fun p=>iter (fun s=>f_r10_Build_l1 v0list s.1 s.2.1 s.2.2) p.1 p.2=some r) (·.1) (n1,(([]:List UInt8),0,0)) H (.cons rfl (.rfl' _) (.cons rfl (.rfl' _) (.cons rfl (.rfl' _) (.cons rfl (.rfl' _) (.nil))))) rfl ?_
 rintro ⟨m1,v4outl1,v5lastl1,v6il1⟩ HI ih1
 obtain ⟨n1,q1,hm1,H,HK1⟩:=iter_succ HI
 clear HI
 replace H:f_r10_Build_l1 v0list v4outl1 v5lastl1 v6il1=some q1:=H
 unfold f_r10_Build_l1 at H
 refine .A 8 [.i (v0list.length:Int)] rfl (s102.n rfl rfl) ?_
 refine .ite H rfl (fun H=>?_) (fun H=>?_)
 ·obtain ⟨hk1,H⟩:=ck_some H
  refine .A 24 [.d (.ro (Element.row (nth v0list v6il1.toNat))),.r 0] rfl ⟨rfl,rfl,rfl,s102.ix rfl rfl rfl hk1⟩ ?_
  refine .ite H rfl (fun H=>?_) (fun H=>?_)
  ·refine .A 5 [] rfl trivial ?_
   refine .R func68 results68 rfl ?_
   cases H
   cases HK1
   exact .m rfl (.tupL ⟨.nil 1,.rfl' _,trivial⟩)
  ·refine .A 9 [] rfl trivial ?_
   refine .ite H rfl (fun H=>?_) (fun H=>?_)
   ·refine .A 5 [] rfl trivial ?_
    refine .R func68 results68 rfl ?_
    cases H
    cases HK1
    exact .m rfl (.tupL ⟨.nil 1,.rfl' _,trivial⟩)
   ·refine .A 9 [.i (((nth v0list v6il1.toNat).value).length:Int)] rfl (s22.n rfl rfl) ?_
    refine .ite H rfl (fun H=>?_) (fun H=>?_)
    ·refine .A 5 [] rfl trivial ?_
     refine .R func68 results68 rfl ?_
     cases H
     cases HK1
     exact .m rfl (.tupL ⟨.nil 1,.rfl' _,trivial⟩)
    ·obtain ⟨hk2,H⟩:=ck_some H
     obtain ⟨hk3,H⟩:=ck_some H
     obtain ⟨hk4,H⟩:=ck_some H
     refine .A 34 [.c (UInt8.ofInt ((nth v0list v6il1.toNat).tag)),.i (((nth v0list v6il1.toNat).value).length:Int),.c (UInt8.ofInt (((nth v0list v6il1.toNat).value).length:Int)),.d (slOf 1 rB8 ([UInt8.ofInt ((nth v0list v6il1.toNat).tag),UInt8.ofInt (((nth v0list v6il1.toNat).value).length:Int)]:List UInt8)),.a 0 5 1 rB8 (v4outl1++([UInt8.ofInt ((nth v0list v6il1.toNat).tag),UInt8.ofInt (((nth v0list v6il1.toNat).value).length:Int)]:List UInt8)),.a 0 5 1 rB8 ((v4outl1++([UInt8.ofInt ((nth v0list v6il1.toNat).tag),UInt8.ofInt (((nth v0list v6il1.toNat).value).length:Int)]:List UInt8))++((nth v0list v6il1.toNat).value)),.i (v6il1+1)] rfl ⟨g_addI rfl rfl hk4,s22.a rfl rfl rfl rfl hk3,s22.a rfl rfl rfl rfl hk2,g_buildSliceN (n:=2) (rows:=([UInt8.ofInt ((nth v0list v6il1.toNat).tag),UInt8.ofInt (((nth v0list v6il1.toNat).value).length:Int)]:List UInt8).map rB8) underlying22 hi5 hs5 hz5 rfl rfl rfl rfl rfl,OpQ.g (q_conv8 underlying3 underlying5 rfl),s22.n rfl rfl,OpQ.g (q_conv8 underlying3 underlying5 rfl)⟩ ?_
     cases H
     exact .t 0 1 (ih1 (n1,((v4outl1++([UInt8.ofInt ((nth v0list v6il1.toNat).tag),UInt8.ofInt (((nth v0list v6il1.toNat).value).length:Int)]:List UInt8))++((nth v0list v6il1.toNat).value),(nth v0list v6il1.toNat).tag,v6il1+1)) HK1 hm1) rfl rfl rfl rfl rfl hS rfl
 ·refine .A 7 [] rfl trivial ?_
  refine .R func68 results68 rfl ?_
  cases H
  cases HK1
  exact .m rfl (.tupL ⟨.tsl _ _ _,.rfl' _,trivial⟩)
theorem c_f_r10_Encode {v0:Record} {r:(List UInt8)×Int} (H:f_r10_Encode v0=some r):ACall prog 36 [.agg (Record.row v0)] (·=.tup [slOf 1 rB8 r.1,cI r.2]):=by
 obtain ⟨i5,hi5,hz5,hs5,hb5⟩:=in_5
 obtain ⟨i22,hi22,hz22,hs22,hb22⟩:=in_22
 obtain ⟨i104,hi104,hz104,hs104,hb104⟩:=in_104
 refine ACall.enter' func36 rfl ntmps36 rfl fun S hS=>?_
 unfold f_r10_Encode at H
 obtain ⟨y1,hy1,H⟩:=bind_some' H
 refine .A 18 [.r 0,.i y1] rfl (g_call (en 85 rfl) rfl rfl (c_f_r09_Error (hy1))) ?_
 refine .ite H rfl (fun H=>?_) (fun H=>?_)
 ·refine .A 6 [] rfl trivial ?_
  refine .R func36 results36 rfl ?_
  cases H
  exact .m rfl (.tupL ⟨.nil 1,.rfl' _,trivial⟩)
 ·obtain ⟨y2,hy2,H⟩:=bind_some' H
  refine .A 16 [.d (.tup [slOf 1 rB8 y2.1,cI y2.2])] rfl (g_call (en 114 rfl) rfl rfl (c_f_r02_Pack (hy2))) ?_
  refine .seqJoin (ι:=List UInt8) (fun v7j1=>[(1,.ref 0 0),(5,.d (slOf 1 rB8 y2.1)),(7,.d (slOf 1 rB8 v7j1))]) (fun v7j1=>⟨[.row 49 [.d (cI v0.source),.d (cI v0.serial),.d (cI v0.kind),.d (cS v0.a),.d (cS v0.b),.d (cI v0.start),.d (cI v0.units),.d (cI v0.call),.d (cI v0.part),.d (cB v0.last),.d (cI v0.trunk),.d (cB v0.inbound)]],[]⟩) (fun s=>f_r10_Encode_j1 v0 y2 s=some r) ?_ ?_
  ·rintro v7j1 H
   replace H:f_r10_Encode_j1 v0 y2 v7j1=some r:=H
   unfold f_r10_Encode_j1 at H
   obtain ⟨y3,hy3,H⟩:=bind_some' H
   obtain ⟨y4,hy4,H⟩:=bind_some' H
   obtain ⟨y5,hy5,H⟩:=bind_some' H
   obtain ⟨y6,hy6,H⟩:=bind_some' H
   obtain ⟨y7,hy7,H⟩:=bind_some' H
   obtain ⟨y8,hy8,H⟩:=bind_some' H
   obtain ⟨y9,hy9,H⟩:=bind_some' H
   obtain ⟨y10,hy10,H⟩:=bind_some' H
   obtain ⟨y11,hy11,H⟩:=bind_some' H
   obtain ⟨y12,hy12,H⟩:=bind_some' H
   refine .A 44 [.p 31,.d (slOf 1 rB8 y3),.d (slOf 1 rB8 y4),.d (slOf 1 rB8 y5),.d (slOf 1 rB8 y6),.d (slOf 1 rB8 y7),.d (slOf 1 rB8 y8),.d (slOf 1 rB8 y9),.d (slOf 1 rB8 y10),.i y11,.d (slOf 1 rB8 y12),.d (slOf 1 (rSl 1 rB8) ([([]:List UInt8),y3,y4,y5,y2.1,v7j1,y6,y7,y8,y9,y10,y12]:List (List UInt8)))] rfl ⟨OpG.le (g_buildSliceN (n:=12) (rows:=[[nilD],[slOf 1 rB8 y3],[slOf 1 rB8 y4],[slOf 1 rB8 y5],[slOf 1 rB8 y2.1],[slOf 1 rB8 v7j1],[slOf 1 rB8 y6],[slOf 1 rB8 y7],[slOf 1 rB8 y8],[slOf 1 rB8 y9],[slOf 1 rB8 y10],[slOf 1 rB8 y12]]) underlying44 hi22 hs22 hz22 rfl rfl rfl (by kernel_rfl) rfl) (EVle.d (.sl ⟨⟨.nil 1,trivial⟩,⟨.rfl' _,trivial⟩,⟨.rfl' _,trivial⟩,⟨.rfl' _,trivial⟩,⟨.rfl' _,trivial⟩,⟨.rfl' _,trivial⟩,⟨.rfl' _,trivial⟩,⟨.rfl' _,trivial⟩,⟨.rfl' _,trivial⟩,⟨.rfl' _,trivial⟩,⟨.rfl' _,trivial⟩,⟨.rfl' _,trivial⟩,trivial⟩)),g_call (en 115 rfl) rfl rfl (c_f_r10_shortest (hy12)),g_call (en 116 rfl) rfl rfl (c_f_r10_flags (hy11)),g_call (en 115 rfl) rfl rfl (c_f_r10_shortest (hy10)),g_call (en 115 rfl) rfl rfl (c_f_r10_shortest (hy9)),g_call (en 115 rfl) rfl rfl (c_f_r10_shortest (hy8)),g_call (en 115 rfl) rfl rfl (c_f_r10_shortest (hy7)),g_call (en 115 rfl) rfl rfl (c_f_r10_shortest (hy6)),g_call (en 115 rfl) rfl rfl (c_f_r10_shortest (hy5)),g_call (en 115 rfl) rfl rfl (c_f_r10_shortest (hy4)),g_call (en 115 rfl) rfl rfl (c_f_r10_shortest (hy3)),(show drawB _ _=true by kernel_rfl)⟩ ?_
   refine .tok (i:=9) (e:=104) (sz:=2) rfl ?_
   refine .blockJoin2 (ι:=List Element) (fun v9j2=>[(9,.tsl 2 (v9j2.map Element.row) 0)]) (fun v9j2=>⟨[.row 49 [.d (cI v0.source),.d (cI v0.serial),.d (cI v0.kind),.d (cS v0.a),.d (cS v0.b),.d (cI v0.start),.d (cI v0.units),.d (cI v0.call),.d (cI v0.part),.d (cB v0.last),.d (cI v0.trunk),.d (cB v0.inbound)]],[⟨104,2,v9j2.length,none⟩]⟩) (fun s=>f_r10_Encode_j2 s=some r) ?_ ?_
   ·rintro v9j2 H
    replace H:f_r10_Encode_j2 v9j2=some r:=H
    unfold f_r10_Encode_j2 at H
    obtain ⟨y13,hy13,H⟩:=bind_some' H
    obtain ⟨hk1,H⟩:=ck_some H
    obtain ⟨hk2,H⟩:=ck_some H
    obtain ⟨hk3,H⟩:=ck_some H
    refine .A 26 [.d (.tup [slOf 1 rB8 y13.1,cI y13.2]),.i (y13.1.length:Int),.i (Int.tdiv (y13.1.length:Int) 256),.c (UInt8.ofInt (Int.tdiv (y13.1.length:Int) 256)),.i (y13.1.length:Int),.i (Int.tmod (y13.1.length:Int) 256),.c (UInt8.ofInt (Int.tmod (y13.1.length:Int) 256)),.n (.tsl 1 (([UInt8.ofInt (Int.tdiv (y13.1.length:Int) 256),UInt8.ofInt (Int.tmod (y13.1.length:Int) 256)]:List UInt8).map rB8) 1) ⟨5,1,([UInt8.ofInt (Int.tdiv (y13.1.length:Int) 256),UInt8.ofInt (Int.tmod (y13.1.length:Int) 256)]:List UInt8).length,none⟩,.a 1 5 1 rB8 (([UInt8.ofInt (Int.tdiv (y13.1.length:Int) 256),UInt8.ofInt (Int.tmod (y13.1.length:Int) 256)]:List UInt8)++y13.1)] rfl ⟨s22.a rfl rfl rfl rfl hk3,.e (v_buildSliceT (n:=2) underlying22 hi5 hs5 hz5 rfl rfl rfl rfl rfl) rfl,OpQ.g (q_conv8 underlying3 underlying5 rfl),OpQ.g (q_remT rfl rfl hk2),s22.n rfl rfl,OpQ.g (q_conv8 underlying3 underlying5 rfl),OpQ.g (q_quoT rfl rfl hk1),s22.n rfl rfl,g_call (en 117 rfl) rfl rfl (c_f_r10_Build (hy13))⟩ ?_
    refine .R func36 results36 rfl ?_
    cases H
    exact .m rfl (.tupL ⟨.tsl _ _ _,.rfl' _,trivial⟩)
   ·intro hj2 hj2x
    obtain ⟨n1,H⟩:=loop_some H
    refine .loop (ι:=Nat×(List Element×Int)) (fun ⟨_,v9l1,v10l1⟩=>[(8,.d (slOf 1 (rSl 1 rB8) ([([]:List UInt8),y3,y4,y5,y2.1,v7j1,y6,y7,y8,y9,y10,y12]:List (List UInt8)))),(9,.tsl 2 (v9l1.map Element.row) 0),(10,.d (cI v10l1))]) (fun ⟨_,v9l1,v10l1⟩=>⟨[.row 49 [.d (cI v0.source),.d (cI v0.serial),.d (cI v0.kind),.d (cS v0.a),.d (cS v0.b),.d (cI v0.start),.d (cI v0.units),.d (cI v0.call),.d (cI v0.part),.d (cB v0.last),.d (cI v0.trunk),.d (cB v0.inbound)]],[⟨104,2,v9l1.length,none⟩]⟩) (fun p=>iter (fun s=>f_r10_Encode_l1 y2 v7j1 y3 y4 y5 y6 y7 y8 y9 y10 y12 s.1 s.2) p.1 p.2=some r) (·.1) (n1,(([]:List Element),1)) H (.cons rfl (.rfl' _) (.cons rfl (.rfl' _) (.cons rfl (.rfl' _) (.nil)))) rfl ?_
    rintro ⟨m1,v9l1,v10l1⟩ HI ih1
    obtain ⟨n1,q1,hm1,H,HK1⟩:=iter_succ HI
    clear HI
    replace H:f_r10_Encode_l1 y2 v7j1 y3 y4 y5 y6 y7 y8 y9 y10 y12 v9l1 v10l1=some q1:=H
    unfold f_r10_Encode_l1 at H
    refine .A 8 [.i (([([]:List UInt8),y3,y4,y5,y2.1,v7j1,y6,y7,y8,y9,y10,y12]:List (List UInt8)).length:Int)] rfl (s44.n rfl rfl) ?_
    refine .ite H rfl (fun H=>?_) (fun H=>?_)
    ·obtain ⟨hk4,H⟩:=ck_some H
     refine .A 12 [.d (.ro ((rSl 1 rB8) (nth ([([]:List UInt8),y3,y4,y5,y2.1,v7j1,y6,y7,y8,y9,y10,y12]:List (List UInt8)) v10l1.toNat))),.i ((nth ([([]:List UInt8),y3,y4,y5,y2.1,v7j1,y6,y7,y8,y9,y10,y12]:List (List UInt8)) v10l1.toNat).length:Int)] rfl ⟨s22.n rfl rfl,s44.ix rfl rfl rfl hk4⟩ ?_
     refine .ite H rfl (fun H=>?_) (fun H=>?_)
     ·obtain ⟨hk5,H⟩:=ck_some H
      obtain ⟨hk6,H⟩:=ck_some H
      obtain ⟨hk7,H⟩:=ck_some H
      refine .A 18 [.d (.ro ((rSl 1 rB8) (nth ([([]:List UInt8),y3,y4,y5,y2.1,v7j1,y6,y7,y8,y9,y10,y12]:List (List UInt8)) v10l1.toNat))),.d (.agg (Element.row (⟨v10l1,nth ([([]:List UInt8),y3,y4,y5,y2.1,v7j1,y6,y7,y8,y9,y10,y12]:List (List UInt8)) v10l1.toNat⟩:Element))),.d (slOf 2 Element.row ([(⟨v10l1,nth ([([]:List UInt8),y3,y4,y5,y2.1,v7j1,y6,y7,y8,y9,y10,y12]:List (List UInt8)) v10l1.toNat⟩:Element)]:List Element)),.a 0 104 2 Element.row (v9l1++([(⟨v10l1,nth ([([]:List UInt8),y3,y4,y5,y2.1,v7j1,y6,y7,y8,y9,y10,y12]:List (List UInt8)) v10l1.toNat⟩:Element)]:List Element)),.i (v10l1+1)] rfl ⟨g_addI rfl rfl hk7,s102.a rfl rfl rfl rfl hk6,g_buildSlice1 underlying102 hi104 hs104 hz104 rfl rfl rfl rfl rfl,OpQ.g (q_buildP pl_104 hi104 hz104 rfl rfl),s44.ix rfl rfl rfl hk5⟩ ?_
      cases H
      exact .z (ih1 (n1,(v9l1++([(⟨v10l1,nth ([([]:List UInt8),y3,y4,y5,y2.1,v7j1,y6,y7,y8,y9,y10,y12]:List (List UInt8)) v10l1.toNat⟩:Element)]:List Element),v10l1+1)) HK1 hm1) rfl rfl
     ·obtain ⟨hk8,H⟩:=ck_some H
      refine .A 7 [.i (v10l1+1)] rfl (g_addI rfl rfl hk8) ?_
      cases H
      exact .z (ih1 (n1,(v9l1,v10l1+1)) HK1 hm1) rfl rfl
    ·refine .A 1 [] rfl trivial ?_
     obtain ⟨q0,H9,hq0⟩:=map_some' H; clear H; cases hq0
     cases HK1
     have H:=H9
     exact .z (hj2x v9l1 H) rfl rfl
  ·intro hj1
   refine .A 6 [] rfl trivial ?_
   refine .ite H rfl (fun H=>?_) (fun H=>?_)
   ·obtain ⟨y14,hy14,H⟩:=bind_some' H
    refine .A 9 [.d (.tup [slOf 1 rB8 y14.1,cI y14.2])] rfl (g_call (en 114 rfl) rfl rfl (c_f_r02_Pack (hy14))) ?_
    exact .z (hj1 y14.1 H) rfl rfl
   ·refine .A 1 [] rfl trivial ?_
    exact .y (hj1 [] H) rfl (.cons rfl (.rfl' _) (.cons rfl (.rfl' _) (.cons rfl (.nil 1) (.nil))))
theorem c_f_r11_digits {v0s:List UInt8} {r:(List UInt8)} (H:f_r11_digits v0s=some r):ACall prog 70 [cS v0s] (·=slOf 1 rB8 r):=by
 obtain ⟨i5,hi5,hz5,hs5,hb5⟩:=in_5
 refine ACall.enter' func70 rfl ntmps70 rfl fun S hS=>?_
 unfold f_r11_digits at H
 obtain ⟨hk1,H⟩:=ck_some H
 obtain ⟨hk2,H⟩:=ck_some H
 obtain ⟨hk3,H⟩:=ck_some H
 obtain ⟨hk4,H⟩:=ck_some H
 refine .A 25 [.n (.vc 0 ((List.replicate (Int.toNat (8)) 0:List UInt8).length)) ⟨5,1,((List.replicate (Int.toNat (8)) 0:List UInt8).length),some ((List.replicate (Int.toNat (8)) 0:List UInt8).map rB8)⟩,.i (v0s.length:Int),.i ((v0s.length:Int)*16),.c (UInt8.ofInt ((v0s.length:Int)*16)),.g (.vp 0 ((List.replicate (Int.toNat (8)) 0:List UInt8).length) (Int.toNat (0)) 0),.w 8 ⟨[],[⟨5,1,((List.replicate (Int.toNat (8)) 0:List UInt8).length),some (((List.replicate (Int.toNat (8)) 0:List UInt8).set (Int.toNat (0)) (UInt8.ofInt ((v0s.length:Int)*16))).map rB8)⟩]⟩] rfl ⟨.e (u_storeV (l:=(List.replicate (Int.toNat (8)) 0:List UInt8)) (row:=rB8) (a:=UInt8.ofInt ((v0s.length:Int)*16)) rfl rfl hk4 rfl rfl sz_5 rfl (Nat.le_of_ble_eq_true rfl) rfl) rfl,OpQ.g (q_idxV (l:=(List.replicate (Int.toNat (8)) 0:List UInt8)) (row:=rB8) (i:=0) underlying22 hi5 hs5 rfl rfl rfl hk3),OpQ.g (q_conv8 underlying3 underlying5 rfl),g_mulI rfl rfl hk2,OpQ.g (q_lenS underlying9 rfl),.e (v_makeV (row:=rB8) (a:=8) (b:=8) (a0:=0) underlying22 hi5 hz5 hs5 rfl (by rw [hb5]; decide) rfl rfl rfl hk1) rfl⟩ ?_
 obtain ⟨n1,H⟩:=loop_some H
 refine .normV (l:=(List.replicate (Int.toNat (8)) 0:List UInt8).set (Int.toNat (0)) (UInt8.ofInt ((v0s.length:Int)*16))) (row:=rB8) (tk:=0) (fun z=>[(0,.d (cS v0s)),(3,.vc 0 z),(4,.d (cI 0))]) (fun z=>⟨[],[⟨5,1,z,some (((List.replicate (Int.toNat (8)) 0:List UInt8).set (Int.toNat (0)) (UInt8.ofInt ((v0s.length:Int)*16))).map rB8)⟩]⟩) rfl (.cons rfl (.rfl' _) (.cons rfl (.rfl' _) (.cons rfl (.rfl' _) (.nil)))) rfl ?_
 refine .loop (ι:=Nat×(List UInt8×Int)) (fun ⟨_,y0tl1,v4il1⟩=>[(0,.d (cS v0s)),(3,.vc 0 y0tl1.length),(4,.d (cI v4il1))]) (fun ⟨_,y0tl1,v4il1⟩=>⟨[],[⟨5,1,y0tl1.length,some (y0tl1.map rB8)⟩]⟩) (fun p=>iter (fun s=>f_r11_digits_l1 v0s s.1 s.2) p.1 p.2=some r) (·.1) (n1,((List.replicate (Int.toNat (8)) 0:List UInt8).set (Int.toNat (0)) (UInt8.ofInt ((v0s.length:Int)*16)),0)) H (.cons rfl (.rfl' _) (.cons rfl (.rfl' _) (.cons rfl (.rfl' _) (.nil)))) rfl ?_
 rintro ⟨m1,y0tl1,v4il1⟩ HI ih1
 obtain ⟨n1,q1,hm1,H,HK1⟩:=iter_succ HI
 clear HI
 replace H:f_r11_digits_l1 v0s y0tl1 v4il1=some q1:=H
 unfold f_r11_digits_l1 at H
 refine .A 8 [.i (v0s.length:Int)] rfl (OpQ.g (q_lenS underlying9 rfl)) ?_
 refine .ite H rfl (fun H=>?_) (fun H=>?_)
 ·obtain ⟨hk5,H⟩:=ck_some H
  obtain ⟨hk6,H⟩:=ck_some H
  refine .A 15 [.i (v4il1+1),.i (Int.tmod (v4il1+1) 2)] rfl ⟨OpQ.g (q_remT rfl rfl hk6),g_addI rfl rfl hk5⟩ ?_
  refine .ite H rfl (fun H=>?_) (fun H=>?_)
  ·obtain ⟨hk7,H⟩:=ck_some H
   obtain ⟨hk8,H⟩:=ck_some H
   obtain ⟨hk9,H⟩:=ck_some H
   obtain ⟨hk10,H⟩:=ck_some H
   obtain ⟨hk11,H⟩:=ck_some H
   obtain ⟨hk12,H⟩:=ck_some H
   obtain ⟨hk13,H⟩:=ck_some H
   obtain ⟨hk14,H⟩:=ck_some H
   refine .A 25 [.p 15,.i (Int.tdiv (v4il1+1) 2),.i (Int.tdiv (v4il1+1) 2),.g (.vp 0 y0tl1.length (Int.tdiv (v4il1+1) 2).toNat 0),.f 17 (.d (cU8 (nth y0tl1 (Int.tdiv (v4il1+1) 2).toNat))),.c (nth v0s v4il1.toNat),.c ((nth v0s v4il1.toNat) - 48),.c (((nth v0s v4il1.toNat) - 48)*16),.c ((nth y0tl1 (Int.tdiv (v4il1+1) 2).toNat)+(((nth v0s v4il1.toNat) - 48)*16)),.g (.vp 0 y0tl1.length (Int.tdiv (v4il1+1) 2).toNat 0),.w 8 ⟨[],[⟨5,1,y0tl1.length,some ((y0tl1.set (Int.tdiv (v4il1+1) 2).toNat ((nth y0tl1 (Int.tdiv (v4il1+1) 2).toNat)+(((nth v0s v4il1.toNat) - 48)*16))).map rB8)⟩]⟩,.i (v4il1+1)] rfl ⟨g_addI rfl rfl hk14,.e (u_storeV (l:=y0tl1) (row:=rB8) (a:=(nth y0tl1 (Int.tdiv (v4il1+1) 2).toNat)+(((nth v0s v4il1.toNat) - 48)*16)) rfl rfl hk13 rfl rfl sz_5 rfl (Nat.le_of_ble_eq_true rfl) rfl) rfl,OpQ.g (q_idxV (l:=y0tl1) (row:=rB8) (i:=Int.tdiv (v4il1+1) 2) underlying22 hi5 hs5 rfl rfl rfl hk12),OpQ.g (q8_add (a:=nth y0tl1 (Int.tdiv (v4il1+1) 2).toNat) (b:=((nth v0s v4il1.toNat) - 48)*16) rfl rfl),OpQ.g (q8_mul (a:=(nth v0s v4il1.toNat) - 48) (b:=16) rfl rfl),OpQ.g (q8_sub (a:=nth v0s v4il1.toNat) (b:=48) rfl rfl),OpQ.g (q_indexL (i:=v4il1) underlying9 rfl rfl hk11),OpQ.g (q_loadVp (l:=y0tl1) (row:=rB8) one_5 rfl rfl hk10 rfl),OpQ.g (q_idxV (l:=y0tl1) (row:=rB8) (i:=Int.tdiv (v4il1+1) 2) underlying22 hi5 hs5 rfl rfl rfl hk9),OpQ.g (q_quoT rfl rfl hk8),OpQ.g (q_quoT rfl rfl hk7),(show drawB _ _=true by kernel_rfl)⟩ ?_
   cases H
   refine .normV (l:=y0tl1.set (Int.tdiv (v4il1+1) 2).toNat ((nth y0tl1 (Int.tdiv (v4il1+1) 2).toNat)+(((nth v0s v4il1.toNat) - 48)*16))) (row:=rB8) (tk:=0) (fun z=>[(0,.d (cS v0s)),(3,.vc 0 z),(4,.d (cI (v4il1+1)))]) (fun z=>⟨[],[⟨5,1,z,some ((y0tl1.set (Int.tdiv (v4il1+1) 2).toNat ((nth y0tl1 (Int.tdiv (v4il1+1) 2).toNat)+(((nth v0s v4il1.toNat) - 48)*16))).map rB8)⟩]⟩) rfl (.cons rfl (.rfl' _) (.cons rfl (.rfl' _) (.cons rfl (.rfl' _) (.nil)))) rfl ?_
   exact .z (ih1 (n1,(y0tl1.set (Int.tdiv (v4il1+1) 2).toNat ((nth y0tl1 (Int.tdiv (v4il1+1) 2).toNat)+(((nth v0s v4il1.toNat) - 48)*16)),v4il1+1)) HK1 hm1) rfl rfl
  ·obtain ⟨hk15,H⟩:=ck_some H
   obtain ⟨hk16,H⟩:=ck_some H
   obtain ⟨hk17,H⟩:=ck_some H
   obtain ⟨hk18,H⟩:=ck_some H
   obtain ⟨hk19,H⟩:=ck_some H
   obtain ⟨hk20,H⟩:=ck_some H
   obtain ⟨hk21,H⟩:=ck_some H
   obtain ⟨hk22,H⟩:=ck_some H
   refine .A 24 [.p 14,.i (Int.tdiv (v4il1+1) 2),.i (Int.tdiv (v4il1+1) 2),.g (.vp 0 y0tl1.length (Int.tdiv (v4il1+1) 2).toNat 0),.f 16 (.d (cU8 (nth y0tl1 (Int.tdiv (v4il1+1) 2).toNat))),.c (nth v0s v4il1.toNat),.c ((nth v0s v4il1.toNat) - 48),.c ((nth y0tl1 (Int.tdiv (v4il1+1) 2).toNat)+((nth v0s v4il1.toNat) - 48)),.g (.vp 0 y0tl1.length (Int.tdiv (v4il1+1) 2).toNat 0),.w 8 ⟨[],[⟨5,1,y0tl1.length,some ((y0tl1.set (Int.tdiv (v4il1+1) 2).toNat ((nth y0tl1 (Int.tdiv (v4il1+1) 2).toNat)+((nth v0s v4il1.toNat) - 48))).map rB8)⟩]⟩,.i (v4il1+1)] rfl ⟨g_addI rfl rfl hk22,.e (u_storeV (l:=y0tl1) (row:=rB8) (a:=(nth y0tl1 (Int.tdiv (v4il1+1) 2).toNat)+((nth v0s v4il1.toNat) - 48)) rfl rfl hk21 rfl rfl sz_5 rfl (Nat.le_of_ble_eq_true rfl) rfl) rfl,OpQ.g (q_idxV (l:=y0tl1) (row:=rB8) (i:=Int.tdiv (v4il1+1) 2) underlying22 hi5 hs5 rfl rfl rfl hk20),OpQ.g (q8_add (a:=nth y0tl1 (Int.tdiv (v4il1+1) 2).toNat) (b:=(nth v0s v4il1.toNat) - 48) rfl rfl),OpQ.g (q8_sub (a:=nth v0s v4il1.toNat) (b:=48) rfl rfl),OpQ.g (q_indexL (i:=v4il1) underlying9 rfl rfl hk19),OpQ.g (q_loadVp (l:=y0tl1) (row:=rB8) one_5 rfl rfl hk18 rfl),OpQ.g (q_idxV (l:=y0tl1) (row:=rB8) (i:=Int.tdiv (v4il1+1) 2) underlying22 hi5 hs5 rfl rfl rfl hk17),OpQ.g (q_quoT rfl rfl hk16),OpQ.g (q_quoT rfl rfl hk15),(show drawB _ _=true by kernel_rfl)⟩ ?_
   cases H
   refine .normV (l:=y0tl1.set (Int.tdiv (v4il1+1) 2).toNat ((nth y0tl1 (Int.tdiv (v4il1+1) 2).toNat)+((nth v0s v4il1.toNat) - 48))) (row:=rB8) (tk:=0) (fun z=>[(0,.d (cS v0s)),(3,.vc 0 z),(4,.d (cI (v4il1+1)))]) (fun z=>⟨[],[⟨5,1,z,some ((y0tl1.set (Int.tdiv (v4il1+1) 2).toNat ((nth y0tl1 (Int.tdiv (v4il1+1) 2).toNat)+((nth v0s v4il1.toNat) - 48))).map rB8)⟩]⟩) rfl (.cons rfl (.rfl' _) (.cons rfl (.rfl' _) (.cons rfl (.rfl' _) (.nil)))) rfl ?_
   exact .z (ih1 (n1,(y0tl1.set (Int.tdiv (v4il1+1) 2).toNat ((nth y0tl1 (Int.tdiv (v4il1+1) 2).toNat)+((nth v0s v4il1.toNat) - 48)),v4il1+1)) HK1 hm1) rfl rfl
 ·refine .A 6 [] rfl trivial ?_
  refine .freezeL (l:=y0tl1) (row:=rB8) (i:=2) rfl rfl ?_
  refine .R func70 results70 rfl ?_
  cases H
  cases HK1
  exact .m rfl (.tsl _ _ _)
theorem c_g_r11_PutDecimal {v0b:List UInt8} {v1n:Int} {v2size:Int} {r:(List UInt8)×Int} (H:f_r11_PutDecimal v0b v1n v2size=some r):ACallS prog 69 [.d (slOf 1 rB8 v0b),.d (cI v1n),.d (cI v2size)] ⟨[],[]⟩ (QE (.tup [.tsl 1 (r.1.map rB8) 0,.d (cI r.2)]) ⟨[],[⟨5,1,r.1.length,none⟩]⟩):=by
 obtain ⟨i5,hi5,hz5,hs5,hb5⟩:=in_5
 refine ACallS.keep ?_
 refine ACallS.enter func69 rfl ntmps69 rfl fun S hS=>?_
 unfold f_r11_PutDecimal at H
 refine .A 19 [] rfl ⟨rfl,rfl,rfl,rfl⟩ ?_
 refine .ite H rfl (fun H=>?_) (fun H=>?_)
 ·refine .A 5 [] rfl trivial ?_
  refine .tok (i:=6) (e:=5) (sz:=1) rfl ?_
  refine .R func69 results69 rfl ?_
  cases H
  exact ⟨[],[0],rfl,rfl,rfl,rfl,rfl,rfl,rfl,rfl,.tupE ⟨.rfl' _,.rfl' _,trivial⟩⟩
 ·obtain ⟨hk1,H⟩:=ck_some H
  obtain ⟨hk2,H⟩:=ck_some H
  refine .A 14 [.n (.vc 0 ((List.replicate v2size.toNat 0:List UInt8).length)) ⟨5,1,((List.replicate v2size.toNat 0:List UInt8).length),some ((List.replicate v2size.toNat 0:List UInt8).map rB8)⟩,.i (v2size-1)] rfl ⟨g_subI rfl rfl hk2,.e (v_makeV (row:=rB8) (a:=v2size) (b:=v2size) (a0:=0) underlying22 hi5 hz5 hs5 rfl (by rw [hb5]; decide) rfl rfl rfl hk1) rfl⟩ ?_
  refine .blockJoin2 (ι:=List UInt8×Int) (fun ⟨y0tj1,v1nj1⟩=>[(0,.d (slOf 1 rB8 v0b)),(1,.d (cI v1nj1)),(8,.vc 0 y0tj1.length)]) (fun ⟨y0tj1,v1nj1⟩=>⟨[],[⟨5,1,y0tj1.length,some (y0tj1.map rB8)⟩]⟩) (fun s=>f_r11_PutDecimal_j1 v0b s.1 s.2=some r) ?_ ?_
  ·rintro ⟨y0tj1,v1nj1⟩ H
   replace H:f_r11_PutDecimal_j1 v0b y0tj1 v1nj1=some r:=H
   unfold f_r11_PutDecimal_j1 at H
   refine .A 6 [] rfl trivial ?_
   refine .ite H rfl (fun H=>?_) (fun H=>?_)
   ·refine .A 5 [] rfl trivial ?_
    refine .tok (i:=6) (e:=5) (sz:=1) rfl ?_
    refine .R func69 results69 rfl ?_
    cases H
    exact ⟨[],[1],rfl,rfl,rfl,rfl,rfl,rfl,rfl,rfl,.tupE ⟨.rfl' _,.rfl' _,trivial⟩⟩
   ·obtain ⟨hk3,H⟩:=ck_some H
    refine .B 7 [.n (.tsl 1 (([]:List UInt8).map rB8) 1) ⟨5,1,([]:List UInt8).length,none⟩,.a 1 5 1 rB8 (([]:List UInt8)++v0b)] rfl ⟨s22.a rfl rfl rfl rfl hk3,.e (v_build0T underlying22 hi5 hs5) rfl⟩ ?_
    refine .freezeL (l:=y0tj1) (row:=rB8) (i:=46) rfl rfl ?_
    obtain ⟨hk4,H⟩:=ck_some H
    refine .A 4 [.a 1 5 1 rB8 ((([]:List UInt8)++v0b)++y0tj1)] rfl (s22.a rfl rfl rfl rfl hk4) ?_
    refine .R func69 results69 rfl ?_
    cases H
    exact ⟨[],[1],rfl,rfl,rfl,rfl,rfl,rfl,rfl,rfl,.tupE ⟨.rfl' _,.rfl' _,trivial⟩⟩
  ·intro hj1 hj1x
   obtain ⟨n1,H⟩:=loop_some H
   refine .loop (ι:=Nat×(List UInt8×Int×Int)) (fun ⟨_,y0tl1,v1nl1,v9il1⟩=>[(0,.d (slOf 1 rB8 v0b)),(1,.d (cI v1nl1)),(8,.vc 0 y0tl1.length),(9,.d (cI v9il1))]) (fun ⟨_,y0tl1,v1nl1,v9il1⟩=>⟨[],[⟨5,1,y0tl1.length,some (y0tl1.map rB8)⟩]⟩) (fun p=>iter (fun s=>f_r11_PutDecimal_l1 v0b s.1 s.2.1 s.2.2) p.1 p.2=some r) (·.1) (n1,((List.replicate v2size.toNat 0:List UInt8),v1n,v2size-1)) H (.cons rfl (.rfl' _) (.cons rfl (.rfl' _) (.cons rfl (.rfl' _) (.cons rfl (.rfl' _) (.nil))))) rfl ?_
   rintro ⟨m1,y0tl1,v1nl1,v9il1⟩ HI ih1
   obtain ⟨n1,q1,hm1,H,HK1⟩:=iter_succ HI
   clear HI
   replace H:f_r11_PutDecimal_l1 v0b y0tl1 v1nl1 v9il1=some q1:=H
   unfold f_r11_PutDecimal_l1 at H
   refine .A 6 [] rfl trivial ?_
   refine .ite H rfl (fun H=>?_) (fun H=>?_)
   ·obtain ⟨hk5,H⟩:=ck_some H
    obtain ⟨hk6,H⟩:=ck_some H
    obtain ⟨hk7,H⟩:=ck_some H
    obtain ⟨hk8,H⟩:=ck_some H
    obtain ⟨hk9,H⟩:=ck_some H
    obtain ⟨hk10,H⟩:=ck_some H
    obtain ⟨hk11,H⟩:=ck_some H
    obtain ⟨hk12,H⟩:=ck_some H
    obtain ⟨hk13,H⟩:=ck_some H
    refine .A 29 [.i (Int.tdiv v1nl1 10),.i (Int.tmod (Int.tdiv v1nl1 10) 10),.i ((Int.tmod (Int.tdiv v1nl1 10) 10)*16),.i (Int.tmod v1nl1 10),.i (((Int.tmod (Int.tdiv v1nl1 10) 10)*16)+(Int.tmod v1nl1 10)),.c (UInt8.ofInt (((Int.tmod (Int.tdiv v1nl1 10) 10)*16)+(Int.tmod v1nl1 10))),.g (.vp 0 y0tl1.length v9il1.toNat 0),.w 13 ⟨[],[⟨5,1,y0tl1.length,some ((y0tl1.set v9il1.toNat (UInt8.ofInt (((Int.tmod (Int.tdiv v1nl1 10) 10)*16)+(Int.tmod v1nl1 10)))).map rB8)⟩]⟩,.i (Int.tdiv v1nl1 100),.i (v9il1-1)] rfl ⟨g_subI rfl rfl hk13,OpQ.g (q_quoT rfl rfl hk12),.e (u_storeV (l:=y0tl1) (row:=rB8) (a:=UInt8.ofInt (((Int.tmod (Int.tdiv v1nl1 10) 10)*16)+(Int.tmod v1nl1 10))) rfl rfl hk11 rfl rfl sz_5 rfl (Nat.le_of_ble_eq_true rfl) rfl) rfl,OpQ.g (q_idxV (l:=y0tl1) (row:=rB8) (i:=v9il1) underlying22 hi5 hs5 rfl rfl rfl hk10),OpQ.g (q_conv8 underlying3 underlying5 rfl),g_addI rfl rfl hk9,OpQ.g (q_remT rfl rfl hk8),g_mulI rfl rfl hk7,OpQ.g (q_remT rfl rfl hk6),OpQ.g (q_quoT rfl rfl hk5)⟩ ?_
    cases H
    refine .normV (l:=y0tl1.set v9il1.toNat (UInt8.ofInt (((Int.tmod (Int.tdiv v1nl1 10) 10)*16)+(Int.tmod v1nl1 10)))) (row:=rB8) (tk:=0) (fun z=>[(0,.d (slOf 1 rB8 v0b)),(1,.d (cI (Int.tdiv v1nl1 100))),(8,.vc 0 z),(9,.d (cI (v9il1-1)))]) (fun z=>⟨[],[⟨5,1,z,some ((y0tl1.set v9il1.toNat (UInt8.ofInt (((Int.tmod (Int.tdiv v1nl1 10) 10)*16)+(Int.tmod v1nl1 10)))).map rB8)⟩]⟩) rfl (.cons rfl (.rfl' _) (.cons rfl (.rfl' _) (.cons rfl (.rfl' _) (.cons rfl (.rfl' _) (.nil))))) rfl ?_
    exact .z (ih1 (n1,(y0tl1.set v9il1.toNat (UInt8.ofInt (((Int.tmod (Int.tdiv v1nl1 10) 10)*16)+(Int.tmod v1nl1 10))),Int.tdiv v1nl1 100,v9il1-1)) HK1 hm1) rfl rfl
   ·refine .A 1 [] rfl trivial ?_
    obtain ⟨q0,H9,hq0⟩:=map_some' H; clear H; cases hq0
    cases HK1
    have H:=H9
    exact .z (hj1x (y0tl1,v1nl1) H) rfl rfl
theorem c_f_r11_Encode {v0:Record} {r:(List UInt8)×Int} (H:f_r11_Encode v0=some r):ACall prog 37 [.agg (Record.row v0)] (·=.tup [slOf 1 rB8 r.1,cI r.2]):=by
 obtain ⟨i5,hi5,hz5,hs5,hb5⟩:=in_5
 refine ACall.enter' func37 rfl ntmps37 rfl fun S hS=>?_
 unfold f_r11_Encode at H
 obtain ⟨y1,hy1,H⟩:=bind_some' H
 refine .A 18 [.r 0,.i y1] rfl (g_call (en 85 rfl) rfl rfl (c_f_r09_Error (hy1))) ?_
 refine .ite H rfl (fun H=>?_) (fun H=>?_)
 ·refine .A 6 [] rfl trivial ?_
  refine .R func37 results37 rfl ?_
  cases H
  exact .m rfl (.tupL ⟨.nil 1,.rfl' _,trivial⟩)
 ·refine .A 5 [] rfl trivial ?_
  refine .seqJoin (ι:=Int) (fun v5j1=>[(1,.ref 0 0),(5,.d (cI v5j1))]) (fun v5j1=>⟨[.row 49 [.d (cI v0.source),.d (cI v0.serial),.d (cI v0.kind),.d (cS v0.a),.d (cS v0.b),.d (cI v0.start),.d (cI v0.units),.d (cI v0.call),.d (cI v0.part),.d (cB v0.last),.d (cI v0.trunk),.d (cB v0.inbound)]],[]⟩) (fun s=>f_r11_Encode_j1 v0 s=some r) ?_ ?_
  ·rintro v5j1 H
   replace H:f_r11_Encode_j1 v0 v5j1=some r:=H
   unfold f_r11_Encode_j1 at H
   refine .seqJoin (ι:=Int) (fun v5j2=>[(1,.ref 0 0),(5,.d (cI v5j2))]) (fun v5j2=>⟨[.row 49 [.d (cI v0.source),.d (cI v0.serial),.d (cI v0.kind),.d (cS v0.a),.d (cS v0.b),.d (cI v0.start),.d (cI v0.units),.d (cI v0.call),.d (cI v0.part),.d (cB v0.last),.d (cI v0.trunk),.d (cB v0.inbound)]],[]⟩) (fun s=>f_r11_Encode_j2 v0 s=some r) ?_ ?_
   ·rintro v5j2 H
    replace H:f_r11_Encode_j2 v0 v5j2=some r:=H
    unfold f_r11_Encode_j2 at H
    obtain ⟨y2,hy2,H⟩:=bind_some' H
    refine .B 4 [] rfl trivial ?_
    refine .callF (en 118 rfl) rfl [] [] (x:=.tup [.tsl 1 (y2.1.map rB8) 0,.d (cI y2.2)]) (st':=⟨[.row 49 [.d (cI v0.source),.d (cI v0.serial),.d (cI v0.kind),.d (cS v0.a),.d (cS v0.b),.d (cI v0.start),.d (cI v0.units),.d (cI v0.call),.d (cI v0.part),.d (cB v0.last),.d (cI v0.trunk),.d (cB v0.inbound)]],[⟨5,1,y2.1.length,none⟩]⟩) rfl (c_g_r11_PutDecimal (hy2)) ⟨.nil 1,.rfl' _,.rfl' _,trivial⟩ rfl rfl rfl rfl rfl rfl ?_
    obtain ⟨y3,hy3,H⟩:=bind_some' H
    refine .B 11 [] rfl trivial ?_
    refine .callF (en 118 rfl) rfl [] [] (x:=.tup [.tsl 1 (y3.1.map rB8) 1,.d (cI y3.2)]) (st':=⟨[.row 49 [.d (cI v0.source),.d (cI v0.serial),.d (cI v0.kind),.d (cS v0.a),.d (cS v0.b),.d (cI v0.start),.d (cI v0.units),.d (cI v0.call),.d (cI v0.part),.d (cB v0.last),.d (cI v0.trunk),.d (cB v0.inbound)]],[⟨5,1,y2.1.length,none⟩,⟨5,1,y3.1.length,none⟩]⟩) rfl (c_g_r11_PutDecimal (hy3)) ⟨.tsl _ _ _,.rfl' _,.rfl' _,trivial⟩ rfl rfl rfl rfl rfl rfl ?_
    obtain ⟨hk1,H⟩:=ck_some H
    obtain ⟨hk2,H⟩:=ck_some H
    obtain ⟨hk3,H⟩:=ck_some H
    obtain ⟨y4,hy4,H⟩:=bind_some' H
    obtain ⟨hk4,H⟩:=ck_some H
    obtain ⟨y5,hy5,H⟩:=bind_some' H
    obtain ⟨hk5,H⟩:=ck_some H
    obtain ⟨y6,hy6,H⟩:=bind_some' H
    refine .B 41 [.i (v0.kind*16),.i ((v0.kind*16)+v5j2),.c (UInt8.ofInt ((v0.kind*16)+v5j2)),.d (slOf 1 rB8 ([UInt8.ofInt ((v0.kind*16)+v5j2)]:List UInt8)),.a 1 5 1 rB8 (y3.1++([UInt8.ofInt ((v0.kind*16)+v5j2)]:List UInt8)),.d (slOf 1 rB8 y4),.a 1 5 1 rB8 ((y3.1++([UInt8.ofInt ((v0.kind*16)+v5j2)]:List UInt8))++y4),.d (slOf 1 rB8 y5),.a 1 5 1 rB8 (((y3.1++([UInt8.ofInt ((v0.kind*16)+v5j2)]:List UInt8))++y4)++y5)] rfl ⟨s22.a rfl rfl rfl rfl hk5,g_call (en 119 rfl) rfl rfl (c_f_r11_digits (hy5)),s22.a rfl rfl rfl rfl hk4,g_call (en 119 rfl) rfl rfl (c_f_r11_digits (hy4)),s22.a rfl rfl rfl rfl hk3,g_buildSlice1 underlying22 hi5 hs5 hz5 rfl rfl rfl rfl rfl,OpQ.g (q_conv8 underlying3 underlying5 rfl),g_addI rfl rfl hk2,g_mulI rfl rfl hk1⟩ ?_
    refine .callF (en 118 rfl) rfl [] [] (x:=.tup [.tsl 1 (y6.1.map rB8) 2,.d (cI y6.2)]) (st':=⟨[.row 49 [.d (cI v0.source),.d (cI v0.serial),.d (cI v0.kind),.d (cS v0.a),.d (cS v0.b),.d (cI v0.start),.d (cI v0.units),.d (cI v0.call),.d (cI v0.part),.d (cB v0.last),.d (cI v0.trunk),.d (cB v0.inbound)]],[⟨5,1,y2.1.length,none⟩,⟨5,1,(((y3.1++([UInt8.ofInt ((v0.kind*16)+v5j2)]:List UInt8))++y4)++y5).length,none⟩,⟨5,1,y6.1.length,none⟩]⟩) rfl (c_g_r11_PutDecimal (hy6)) ⟨.tsl _ _ _,.rfl' _,.rfl' _,trivial⟩ rfl rfl rfl rfl rfl rfl ?_
    obtain ⟨y7,hy7,H⟩:=bind_some' H
    refine .B 10 [] rfl trivial ?_
    refine .callF (en 118 rfl) rfl [] [] (x:=.tup [.tsl 1 (y7.1.map rB8) 3,.d (cI y7.2)]) (st':=⟨[.row 49 [.d (cI v0.source),.d (cI v0.serial),.d (cI v0.kind),.d (cS v0.a),.d (cS v0.b),.d (cI v0.start),.d (cI v0.units),.d (cI v0.call),.d (cI v0.part),.d (cB v0.last),.d (cI v0.trunk),.d (cB v0.inbound)]],[⟨5,1,y2.1.length,none⟩,⟨5,1,(((y3.1++([UInt8.ofInt ((v0.kind*16)+v5j2)]:List UInt8))++y4)++y5).length,none⟩,⟨5,1,y6.1.length,none⟩,⟨5,1,y7.1.length,none⟩]⟩) rfl (c_g_r11_PutDecimal (hy7)) ⟨.tsl _ _ _,.rfl' _,.rfl' _,trivial⟩ rfl rfl rfl rfl rfl rfl ?_
    obtain ⟨y8,hy8,H⟩:=bind_some' H
    refine .B 10 [] rfl trivial ?_
    refine .callF (en 118 rfl) rfl [] [] (x:=.tup [.tsl 1 (y8.1.map rB8) 4,.d (cI y8.2)]) (st':=⟨[.row 49 [.d (cI v0.source),.d (cI v0.serial),.d (cI v0.kind),.d (cS v0.a),.d (cS v0.b),.d (cI v0.start),.d (cI v0.units),.d (cI v0.call),.d (cI v0.part),.d (cB v0.last),.d (cI v0.trunk),.d (cB v0.inbound)]],[⟨5,1,y2.1.length,none⟩,⟨5,1,(((y3.1++([UInt8.ofInt ((v0.kind*16)+v5j2)]:List UInt8))++y4)++y5).length,none⟩,⟨5,1,y6.1.length,none⟩,⟨5,1,y7.1.length,none⟩,⟨5,1,y8.1.length,none⟩]⟩) rfl (c_g_r11_PutDecimal (hy8)) ⟨.tsl _ _ _,.rfl' _,.rfl' _,trivial⟩ rfl rfl rfl rfl rfl rfl ?_
    obtain ⟨y9,hy9,H⟩:=bind_some' H
    refine .B 10 [] rfl trivial ?_
    refine .callF (en 118 rfl) rfl [] [] (x:=.tup [.tsl 1 (y9.1.map rB8) 5,.d (cI y9.2)]) (st':=⟨[.row 49 [.d (cI v0.source),.d (cI v0.serial),.d (cI v0.kind),.d (cS v0.a),.d (cS v0.b),.d (cI v0.start),.d (cI v0.units),.d (cI v0.call),.d (cI v0.part),.d (cB v0.last),.d (cI v0.trunk),.d (cB v0.inbound)]],[⟨5,1,y2.1.length,none⟩,⟨5,1,(((y3.1++([UInt8.ofInt ((v0.kind*16)+v5j2)]:List UInt8))++y4)++y5).length,none⟩,⟨5,1,y6.1.length,none⟩,⟨5,1,y7.1.length,none⟩,⟨5,1,y8.1.length,none⟩,⟨5,1,y9.1.length,none⟩]⟩) rfl (c_g_r11_PutDecimal (hy9)) ⟨.tsl _ _ _,.rfl' _,.rfl' _,trivial⟩ rfl rfl rfl rfl rfl rfl ?_
    obtain ⟨y10,hy10,H⟩:=bind_some' H
    refine .B 10 [] rfl trivial ?_
    refine .callF (en 118 rfl) rfl [] [] (x:=.tup [.tsl 1 (y10.1.map rB8) 6,.d (cI y10.2)]) (st':=⟨[.row 49 [.d (cI v0.source),.d (cI v0.serial),.d (cI v0.kind),.d (cS v0.a),.d (cS v0.b),.d (cI v0.start),.d (cI v0.units),.d (cI v0.call),.d (cI v0.part),.d (cB v0.last),.d (cI v0.trunk),.d (cB v0.inbound)]],[⟨5,1,y2.1.length,none⟩,⟨5,1,(((y3.1++([UInt8.ofInt ((v0.kind*16)+v5j2)]:List UInt8))++y4)++y5).length,none⟩,⟨5,1,y6.1.length,none⟩,⟨5,1,y7.1.length,none⟩,⟨5,1,y8.1.length,none⟩,⟨5,1,y9.1.length,none⟩,⟨5,1,y10.1.length,none⟩]⟩) rfl (c_g_r11_PutDecimal (hy10)) ⟨.tsl _ _ _,.rfl' _,.rfl' _,trivial⟩ rfl rfl rfl rfl rfl rfl ?_
    obtain ⟨y11,hy11,H⟩:=bind_some' H
    obtain ⟨hk6,H⟩:=ck_some H
    refine .A 15 [.c y11,.d (slOf 1 rB8 ([y11]:List UInt8)),.a 6 5 1 rB8 (y10.1++([y11]:List UInt8))] rfl ⟨s22.a rfl rfl rfl rfl hk6,g_buildSlice1 underlying22 hi5 hs5 hz5 rfl rfl rfl rfl rfl,g_call (en 97 rfl) rfl rfl (c_f_r11_sum (hy11))⟩ ?_
    refine .R func37 results37 rfl ?_
    cases H
    exact .m rfl (.tupL ⟨.tsl _ _ _,.rfl' _,trivial⟩)
   ·intro hj2
    refine .A 5 [] rfl trivial ?_
    refine .ite H rfl (fun H=>?_) (fun H=>?_)
    ·obtain ⟨hk7,H⟩:=ck_some H
     refine .A 5 [.i (v5j1+2)] rfl (g_addI rfl rfl hk7) ?_
     exact .z (hj2 (v5j1+2) H) rfl rfl
    ·refine .A 1 [] rfl trivial ?_
     exact .z (hj2 v5j1 H) rfl rfl
  ·intro hj1
   refine .A 5 [] rfl trivial ?_
   refine .ite H rfl (fun H=>?_) (fun H=>?_)
   ·obtain ⟨hk8,H⟩:=ck_some H
    refine .A 5 [.i (0+1)] rfl (g_addI rfl rfl hk8) ?_
    exact .z (hj1 (0+1) H) rfl rfl
   ·refine .A 1 [] rfl trivial ?_
    exact .z (hj1 0 H) rfl rfl
theorem c_f_r07_Bytes {v0n:Int} {r:(List UInt8)} (H:f_r07_Bytes v0n=some r):ACall prog 100 [cI v0n] (·=slOf 1 rB8 r):=by
 obtain ⟨i5,hi5,hz5,hs5,hb5⟩:=in_5
 refine ACall.enter' func100 rfl ntmps100 rfl fun S hS=>?_
 unfold f_r07_Bytes at H
 refine .A 11 [.d (cK .u64 (IntKind.wrap .u64 v0n)),.d (cK .u64 (IntKind.wrap .u64 (2*(IntKind.wrap .u64 v0n))))] rfl ⟨OpQ.g (q_mul rfl rfl rfl),OpQ.g (q_conv underlying3 underlying122 rfl rfl)⟩ ?_
 refine .seqJoin (ι:=Int) (fun v3uj1=>[(3,.d (cK .u64 v3uj1))]) (fun v3uj1=>⟨[],[]⟩) (fun s=>f_r07_Bytes_j1 s=some r) ?_ ?_
 ·rintro v3uj1 H
  replace H:f_r07_Bytes_j1 v3uj1=some r:=H
  unfold f_r07_Bytes_j1 at H
  refine .A 5 [] rfl trivial ?_
  refine .tok (i:=4) (e:=5) (sz:=1) rfl ?_
  refine .blockJoin2 (ι:=Int×List UInt8) (fun ⟨v3uj2,v4outj2⟩=>[(3,.d (cK .u64 v3uj2)),(4,.tsl 1 (v4outj2.map rB8) 0)]) (fun ⟨v3uj2,v4outj2⟩=>⟨[],[⟨5,1,v4outj2.length,none⟩]⟩) (fun s=>f_r07_Bytes_j2 s.1 s.2=some r) ?_ ?_
  ·rintro ⟨v3uj2,v4outj2⟩ H
   replace H:f_r07_Bytes_j2 v3uj2 v4outj2=some r:=H
   unfold f_r07_Bytes_j2 at H
   obtain ⟨hk1,H⟩:=ck_some H
   refine .A 9 [.c (UInt8.ofInt v3uj2),.d (slOf 1 rB8 ([UInt8.ofInt v3uj2]:List UInt8)),.a 0 5 1 rB8 (v4outj2++([UInt8.ofInt v3uj2]:List UInt8))] rfl ⟨s22.a rfl rfl rfl rfl hk1,g_buildSlice1 underlying22 hi5 hs5 hz5 rfl rfl rfl rfl rfl,OpQ.g (q_conv8 underlying122 underlying5 rfl)⟩ ?_
   refine .R func100 results100 rfl ?_
   cases H
   exact .m rfl (.tsl _ _ _)
  ·intro hj2 hj2x
   obtain ⟨n1,H⟩:=loop_some H
   refine .loop (ι:=Nat×(Int×List UInt8)) (fun ⟨_,v3ul1,v4outl1⟩=>[(3,.d (cK .u64 v3ul1)),(4,.tsl 1 (v4outl1.map rB8) 0)]) (fun ⟨_,v3ul1,v4outl1⟩=>⟨[],[⟨5,1,v4outl1.length,none⟩]⟩) (fun p=>iter (fun s=>f_r07_Bytes_l1 s.1 s.2) p.1 p.2=some r) (·.1) (n1,(v3uj1,([]:List UInt8))) H (.cons rfl (.rfl' _) (.cons rfl (.rfl' _) (.nil))) rfl ?_
   rintro ⟨m1,v3ul1,v4outl1⟩ HI ih1
   obtain ⟨n1,q1,hm1,H,HK1⟩:=iter_succ HI
   clear HI
   replace H:f_r07_Bytes_l1 v3ul1 v4outl1=some q1:=H
   unfold f_r07_Bytes_l1 at H
   refine .A 6 [] rfl trivial ?_
   refine .ite H rfl (fun H=>?_) (fun H=>?_)
   ·obtain ⟨hk2,H⟩:=ck_some H
    obtain ⟨hk3,H⟩:=ck_some H
    obtain ⟨hk4,H⟩:=ck_some H
    refine .A 19 [.d (cK .u64 (Int.tmod v3ul1 128)),.d (cK .u64 (IntKind.wrap .u64 (128+(Int.tmod v3ul1 128)))),.c (UInt8.ofInt (IntKind.wrap .u64 (128+(Int.tmod v3ul1 128)))),.d (slOf 1 rB8 ([UInt8.ofInt (IntKind.wrap .u64 (128+(Int.tmod v3ul1 128)))]:List UInt8)),.a 0 5 1 rB8 (v4outl1++([UInt8.ofInt (IntKind.wrap .u64 (128+(Int.tmod v3ul1 128)))]:List UInt8)),.d (cK .u64 (IntKind.wrap .u64 (Int.tdiv v3ul1 128)))] rfl ⟨OpQ.g (q_quo rfl rfl hk4 rfl),s22.a rfl rfl rfl rfl hk3,g_buildSlice1 underlying22 hi5 hs5 hz5 rfl rfl rfl rfl rfl,OpQ.g (q_conv8 underlying122 underlying5 rfl),OpQ.g (q_add rfl rfl rfl),OpQ.g (q_rem rfl rfl hk2 rfl)⟩ ?_
    cases H
    exact .z (ih1 (n1,(IntKind.wrap .u64 (Int.tdiv v3ul1 128),v4outl1++([UInt8.ofInt (IntKind.wrap .u64 (128+(Int.tmod v3ul1 128)))]:List UInt8))) HK1 hm1) rfl rfl
   ·refine .A 1 [] rfl trivial ?_
    obtain ⟨q0,H9,hq0⟩:=map_some' H; clear H; cases hq0
    cases HK1
    have H:=H9
    exact .z (hj2x (v3ul1,v4outl1) H) rfl rfl
 ·intro hj1
  refine .A 5 [] rfl trivial ?_
  refine .ite H rfl (fun H=>?_) (fun H=>?_)
  ·obtain ⟨hk5,H⟩:=ck_some H
   obtain ⟨hk6,H⟩:=ck_some H
   refine .A 9 [.i (v0n+1),.i (-(v0n+1)),.d (cK .u64 (IntKind.wrap .u64 (-(v0n+1)))),.d (cK .u64 (IntKind.wrap .u64 (2*(IntKind.wrap .u64 (-(v0n+1)))))),.d (cK .u64 (IntKind.wrap .u64 ((IntKind.wrap .u64 (2*(IntKind.wrap .u64 (-(v0n+1)))))+1)))] rfl ⟨OpQ.g (q_add rfl rfl rfl),OpQ.g (q_mul rfl rfl rfl),OpQ.g (q_conv underlying3 underlying122 rfl rfl),OpQ.g (q_negI rfl hk6.1 hk6.2),g_addI rfl rfl hk5⟩ ?_
   exact .z (hj1 (IntKind.wrap .u64 ((IntKind.wrap .u64 (2*(IntKind.wrap .u64 (-(v0n+1)))))+1)) H) rfl rfl
  ·refine .A 1 [] rfl trivial ?_
   exact .z (hj1 (IntKind.wrap .u64 (2*(IntKind.wrap .u64 v0n))) H) rfl rfl
theorem c_f_r07_PutNumber {v0b:List UInt8} {v1n:Int} {r:(List UInt8)} (H:f_r07_PutNumber v0b v1n=some r):ACall prog 62 [slOf 1 rB8 v0b,cI v1n] (·=slOf 1 rB8 r):=by
 refine ACall.enter' func62 rfl ntmps62 rfl fun S hS=>?_
 unfold f_r07_PutNumber at H
 obtain ⟨y1,hy1,H⟩:=bind_some' H
 obtain ⟨y2,hy2,H⟩:=bind_some' H
 refine .A 12 [.d (slOf 1 rB8 y1),.d (slOf 1 rB8 y2)] rfl ⟨g_call (en 48 rfl) rfl rfl (c_f_r07_join (hy2)),g_call (en 120 rfl) rfl rfl (c_f_r07_Bytes (hy1))⟩ ?_
 refine .R func62 results62 rfl ?_
 cases H
 exact .m rfl (.rfl' _)
theorem c_f_r12_numbers {v0l:List Int} {r:(List UInt8)} (H:f_r12_numbers v0l=some r):ACall prog 38 [slOf 1 rI v0l] (·=slOf 1 rB8 r):=by
 refine ACall.enter' func38 rfl ntmps38 rfl fun S hS=>?_
 unfold f_r12_numbers at H
 refine .A 14 [] rfl trivial ?_
 obtain ⟨n1,H⟩:=loop_some H
 refine .loop (ι:=Nat×(List UInt8×Int)) (fun ⟨_,v3outl1,v4il1⟩=>[(0,.d (slOf 1 rI v0l)),(3,.d (slOf 1 rB8 v3outl1)),(4,.d (cI v4il1))]) (fun ⟨_,v3outl1,v4il1⟩=>⟨[],[]⟩) (fun p=>iter (fun s=>f_r12_numbers_l1 v0l s.1 s.2) p.1 p.2=some r) (·.1) (n1,([],0)) H (.cons rfl (.rfl' _) (.cons rfl (.nil 1) (.cons rfl (.rfl' _) (.nil)))) rfl ?_
 rintro ⟨m1,v3outl1,v4il1⟩ HI ih1
 obtain ⟨n1,q1,hm1,H,HK1⟩:=iter_succ HI
 clear HI
 replace H:f_r12_numbers_l1 v0l v3outl1 v4il1=some q1:=H
 unfold f_r12_numbers_l1 at H
 refine .A 8 [.i (v0l.length:Int)] rfl (s68.n rfl rfl) ?_
 refine .ite H rfl (fun H=>?_) (fun H=>?_)
 ·obtain ⟨hk1,H⟩:=ck_some H
  obtain ⟨y1,hy1,H⟩:=bind_some' H
  obtain ⟨hk2,H⟩:=ck_some H
  refine .A 18 [.d (.ro (rI (nth v0l v4il1.toNat))),.d (slOf 1 rB8 y1),.i (v4il1+1)] rfl ⟨g_addI rfl rfl hk2,g_call (en 121 rfl) rfl rfl (c_f_r07_PutNumber (hy1)),s68.ix rfl rfl rfl hk1⟩ ?_
  cases H
  exact .z (ih1 (n1,(y1,v4il1+1)) HK1 hm1) rfl rfl
 ·refine .A 6 [] rfl trivial ?_
  refine .R func38 results38 rfl ?_
  cases H
  cases HK1
  exact .m rfl (.rfl' _)
theorem c_f_r12_Payloads {v0:Batch} {r:(List (List UInt8))} (H:f_r12_Payloads v0=some r):ACall prog 16 [.agg (Batch.row v0)] (·=slOf 1 (rSl 1 rB8) r):=by
 obtain ⟨i3,hi3,hz3,hs3,hb3⟩:=in_3
 obtain ⟨i5,hi5,hz5,hs5,hb5⟩:=in_5
 obtain ⟨i22,hi22,hz22,hs22,hb22⟩:=in_22
 refine ACall.enter' func16 rfl ntmps16 rfl fun S hS=>?_
 unfold f_r12_Payloads at H
 refine .A 14 [.r 0] rfl trivial ?_
 refine .tok (i:=3) (e:=5) (sz:=1) rfl ?_
 refine .blockJoin2 (ι:=List UInt8) (fun v3j1=>[(1,.ref 0 0),(3,.tsl 1 (v3j1.map rB8) 0)]) (fun v3j1=>⟨[.row 31 [.d (cI v0.source),.d (cI v0.number),.d (cI v0.format),.d (slOf 12 Record.row v0.records)]],[⟨5,1,v3j1.length,none⟩]⟩) (fun s=>f_r12_Payloads_j1 v0 s=some r) ?_ ?_
 ·rintro v3j1 H
  replace H:f_r12_Payloads_j1 v0 v3j1=some r:=H
  unfold f_r12_Payloads_j1 at H
  obtain ⟨y1,hy1,H⟩:=bind_some' H
  obtain ⟨y2,hy2,H⟩:=bind_some' H
  obtain ⟨y3,hy3,H⟩:=bind_some' H
  refine .A 41 [.d (.agg (Totals.row y1)),.r 1,.p 29,.d (slOf 1 rI ([v0.source,v0.number,v0.format,y1.count]:List Int)),.d (slOf 1 rB8 y2),.g (.ref 1 2),.g (.ref 1 3),.g (.ref 1 4),.g (.ref 1 5),.d (slOf 1 rI ([y1.count,nth y1.units 1,nth y1.units 2,nth y1.units 3,nth y1.units 4]:List Int)),.d (slOf 1 rB8 y3),.d (slOf 1 (rSl 1 rB8) ([y2,v3j1,y3]:List (List UInt8)))] rfl ⟨g_buildSliceN (n:=3) (rows:=([y2,v3j1,y3]:List (List UInt8)).map (rSl 1 rB8)) underlying44 hi22 hs22 hz22 rfl rfl rfl rfl rfl,g_call (en 122 rfl) rfl rfl (c_f_r12_numbers (hy3)),g_buildSliceN (n:=5) (rows:=([y1.count,nth y1.units 1,nth y1.units 2,nth y1.units 3,nth y1.units 4]:List Int).map rI) underlying68 hi3 hs3 hz3 rfl rfl rfl rfl rfl,OpQ.g (q_idxArr (m:=4) (sz:=1) underlying50 ⟨_,hi3,hs3⟩ rfl rfl rfl (by decide)),OpQ.g (q_idxArr (m:=3) (sz:=1) underlying50 ⟨_,hi3,hs3⟩ rfl rfl rfl (by decide)),OpQ.g (q_idxArr (m:=2) (sz:=1) underlying50 ⟨_,hi3,hs3⟩ rfl rfl rfl (by decide)),OpQ.g (q_idxArr (m:=1) (sz:=1) underlying50 ⟨_,hi3,hs3⟩ rfl rfl rfl (by decide)),g_call (en 122 rfl) rfl rfl (c_f_r12_numbers (hy2)),g_buildSliceN (n:=4) (rows:=([v0.source,v0.number,v0.format,y1.count]:List Int).map rI) underlying68 hi3 hs3 hz3 rfl rfl rfl rfl rfl,(show drawB _ _=true by kernel_rfl),g_call (en 106 rfl) rfl rfl (c_f_r12_Totals (hy1))⟩ ?_
  refine .R func16 results16 rfl ?_
  cases H
  exact .m rfl (.rfl' _)
 ·intro hj1 hj1x
  obtain ⟨n1,H⟩:=loop_some H
  refine .loop (ι:=Nat×(List UInt8×Int)) (fun ⟨_,v3l1,v4l1⟩=>[(1,.ref 0 0),(3,.tsl 1 (v3l1.map rB8) 0),(4,.d (cI v4l1))]) (fun ⟨_,v3l1,v4l1⟩=>⟨[.row 31 [.d (cI v0.source),.d (cI v0.number),.d (cI v0.format),.d (slOf 12 Record.row v0.records)]],[⟨5,1,v3l1.length,none⟩]⟩) (fun p=>iter (fun s=>f_r12_Payloads_l1 v0 s.1 s.2) p.1 p.2=some r) (·.1) (n1,(([]:List UInt8),0)) H (.cons rfl (.rfl' _) (.cons rfl (.rfl' _) (.cons rfl (.rfl' _) (.nil)))) rfl ?_
  rintro ⟨m1,v3l1,v4l1⟩ HI ih1
  obtain ⟨n1,q1,hm1,H,HK1⟩:=iter_succ HI
  clear HI
  replace H:f_r12_Payloads_l1 v0 v3l1 v4l1=some q1:=H
  unfold f_r12_Payloads_l1 at H
  refine .A 9 [.i (v0.records.length:Int)] rfl (s29.n rfl rfl) ?_
  refine .ite H rfl (fun H=>?_) (fun H=>?_)
  ·obtain ⟨hk1,H⟩:=ck_some H
   refine .A 24 [.d (.ro (Record.row (nth v0.records v4l1.toNat))),.r 1] rfl (s29.ix rfl rfl rfl hk1) ?_
   refine .ite H rfl (fun H=>?_) (fun H=>?_)
   ·obtain ⟨y4,hy4,H⟩:=bind_some' H
    obtain ⟨hk2,H⟩:=ck_some H
    obtain ⟨hk3,H⟩:=ck_some H
    obtain ⟨hk4,H⟩:=ck_some H
    refine .A 24 [.d (.tup [cS y4.1,cI y4.2]),.s (y4.1++([10]:List UInt8)),.t (.tsl 1 ((v3l1++(y4.1++([10]:List UInt8))).map rB8) 0) 0 ⟨5,1,(v3l1++(y4.1++([10]:List UInt8))).length,none⟩,.i (v4l1+1)] rfl ⟨g_addI rfl rfl hk4,.e (v_appendStrL (l:=v3l1) (a:=y4.1++([10]:List UInt8)) underlying22 underlying9 hi5 hz5 hs5 rfl (by rw [hb5]; decide) rfl rfl rfl hk3) rfl,OpQ.g (q_sadd rfl rfl hk2),g_call (en 89 rfl) rfl rfl (c_f_r09_Encode (hy4))⟩ ?_
    cases H
    exact .t 1 1 (ih1 (n1,(v3l1++(y4.1++([10]:List UInt8)),v4l1+1)) HK1 hm1) rfl rfl rfl rfl rfl hS rfl
   ·refine .A 5 [] rfl trivial ?_
    refine .ite H rfl (fun H=>?_) (fun H=>?_)
    ·obtain ⟨y5,hy5,H⟩:=bind_some' H
     obtain ⟨hk5,H⟩:=ck_some H
     obtain ⟨hk6,H⟩:=ck_some H
     refine .A 23 [.d (.tup [slOf 1 rB8 y5.1,cI y5.2]),.a 0 5 1 rB8 (v3l1++y5.1),.i (v4l1+1)] rfl ⟨g_addI rfl rfl hk6,s22.a rfl rfl rfl rfl hk5,g_call (en 123 rfl) rfl rfl (c_f_r10_Encode (hy5))⟩ ?_
     cases H
     exact .t 1 1 (ih1 (n1,(v3l1++y5.1,v4l1+1)) HK1 hm1) rfl rfl rfl rfl rfl hS rfl
    ·obtain ⟨y6,hy6,H⟩:=bind_some' H
     obtain ⟨hk7,H⟩:=ck_some H
     obtain ⟨hk8,H⟩:=ck_some H
     refine .A 23 [.d (.tup [slOf 1 rB8 y6.1,cI y6.2]),.a 0 5 1 rB8 (v3l1++y6.1),.i (v4l1+1)] rfl ⟨g_addI rfl rfl hk8,s22.a rfl rfl rfl rfl hk7,g_call (en 124 rfl) rfl rfl (c_f_r11_Encode (hy6))⟩ ?_
     cases H
     exact .t 1 1 (ih1 (n1,(v3l1++y6.1,v4l1+1)) HK1 hm1) rfl rfl rfl rfl rfl hS rfl
  ·refine .A 1 [] rfl trivial ?_
   obtain ⟨q0,H9,hq0⟩:=map_some' H; clear H; cases hq0
   cases HK1
   have H:=H9
   exact .z (hj1x v3l1 H) rfl rfl
set_option maxRecDepth 100000
set_option maxHeartbeats 1000000
theorem c_g_r07_join {v0a:List UInt8} {v1b:List UInt8} {r:(List UInt8)} (H:f_r07_join v0a v1b=some r):ACallS prog 83 [.d (slOf 1 rB8 v0a),.d (slOf 1 rB8 v1b)] ⟨[],[]⟩ (QE (.tsl 1 (r.map rB8) 0) ⟨[],[⟨5,1,r.length,none⟩]⟩):=by
 obtain ⟨i5,hi5,hz5,hs5,hb5⟩:=in_5
 refine ACallS.keep ?_
 refine ACallS.enter func83 rfl ntmps83 rfl fun S hS=>?_
 unfold f_r07_join at H
 obtain ⟨hk1,H⟩:=ck_some H
 obtain ⟨hk2,H⟩:=ck_some H
 refine .A 18 [.n (.tsl 1 (([]:List UInt8).map rB8) 0) ⟨5,1,([]:List UInt8).length,none⟩,.a 0 5 1 rB8 (([]:List UInt8)++v0a),.a 0 5 1 rB8 ((([]:List UInt8)++v0a)++v1b)] rfl ⟨s22.a rfl rfl rfl rfl hk2,s22.a rfl rfl rfl rfl hk1,.e (v_build0T underlying22 hi5 hs5) rfl⟩ ?_
 refine .R func83 results83 rfl ?_
 cases H
 exact ⟨[],[0],rfl,rfl,rfl,rfl,rfl,rfl,rfl,rfl,.rfl' _⟩
theorem c_g_r07_PutNumber {v0b:List UInt8} {v1n:Int} {r:(List UInt8)} (H:f_r07_PutNumber v0b v1n=some r):ACallS prog 62 [.d (slOf 1 rB8 v0b),.d (cI v1n)] ⟨[],[]⟩ (QE (.tsl 1 (r.map rB8) 0) ⟨[],[⟨5,1,r.length,none⟩]⟩):=by
 refine ACallS.keep ?_
 refine ACallS.enter func62 rfl ntmps62 rfl fun S hS=>?_
 unfold f_r07_PutNumber at H
 obtain ⟨y1,hy1,H⟩:=bind_some' H
 obtain ⟨y2,hy2,H⟩:=bind_some' H
 refine .B 9 [.d (slOf 1 rB8 y1)] rfl (g_call (en 120 rfl) rfl rfl (c_f_r07_Bytes (hy1))) ?_
 refine .callF (en 48 rfl) rfl [] [] (x:=.tsl 1 (y2.map rB8) 0) (st':=⟨[],[⟨5,1,y2.length,none⟩]⟩) rfl (c_g_r07_join (hy2)) ⟨.rfl' _,.rfl' _,trivial⟩ rfl rfl rfl rfl rfl rfl ?_
 refine .A 2 [] rfl trivial ?_
 refine .R func62 results62 rfl ?_
 cases H
 exact ⟨[],[0],rfl,rfl,rfl,rfl,rfl,rfl,rfl,rfl,.rfl' _⟩
theorem c_f_r08_Wrap {v0b:List UInt8} {r:(List UInt8)×Int} (H:f_r08_Wrap v0b=some r):ACall prog 34 [slOf 1 rB8 v0b] (·=.tup [slOf 1 rB8 r.1,cI r.2]):=by
 obtain ⟨i5,hi5,hz5,hs5,hb5⟩:=in_5
 refine ACall.enter' func34 rfl ntmps34 rfl fun S hS=>?_
 unfold f_r08_Wrap at H
 refine .A 12 [.i (v0b.length:Int)] rfl (s22.n rfl rfl) ?_
 refine .ite H rfl (fun H=>?_) (fun H=>?_)
 ·refine .A 5 [] rfl trivial ?_
  refine .R func34 results34 rfl ?_
  cases H
  exact .m rfl (.tupL ⟨.nil 1,.rfl' _,trivial⟩)
 ·obtain ⟨y1,hy1,H⟩:=bind_some' H
  obtain ⟨y2,hy2,H⟩:=bind_some' H
  refine .B 11 [.d (cK .u32 y1),.i (v0b.length:Int)] rfl ⟨s22.n rfl rfl,g_call (en 50 rfl) rfl rfl (c_f_r08_Sum (hy1))⟩ ?_
  refine .callF (en 121 rfl) rfl [] [] (x:=.tsl 1 (y2.map rB8) 0) (st':=⟨[],[⟨5,1,y2.length,none⟩]⟩) rfl (c_g_r07_PutNumber (hy2)) ⟨.nil 1,.rfl' _,trivial⟩ rfl rfl rfl rfl rfl rfl ?_
  obtain ⟨hk1,H⟩:=ck_some H
  obtain ⟨hk2,H⟩:=ck_some H
  obtain ⟨hk3,H⟩:=ck_some H
  obtain ⟨hk4,H⟩:=ck_some H
  obtain ⟨hk5,H⟩:=ck_some H
  refine .A 28 [.d (cK .u32 (Int.fdiv y1 (2 ^ (min (Int.toNat (24)) 32)))),.c (UInt8.ofInt (Int.fdiv y1 (2 ^ (min (Int.toNat (24)) 32)))),.d (cK .u32 (Int.fdiv y1 (2 ^ (min (Int.toNat (16)) 32)))),.c (UInt8.ofInt (Int.fdiv y1 (2 ^ (min (Int.toNat (16)) 32)))),.d (cK .u32 (Int.fdiv y1 (2 ^ (min (Int.toNat (8)) 32)))),.c (UInt8.ofInt (Int.fdiv y1 (2 ^ (min (Int.toNat (8)) 32)))),.c (UInt8.ofInt y1),.d (slOf 1 rB8 ([UInt8.ofInt (Int.fdiv y1 (2 ^ (min (Int.toNat (24)) 32))),UInt8.ofInt (Int.fdiv y1 (2 ^ (min (Int.toNat (16)) 32))),UInt8.ofInt (Int.fdiv y1 (2 ^ (min (Int.toNat (8)) 32))),UInt8.ofInt y1]:List UInt8)),.a 0 5 1 rB8 (y2++([UInt8.ofInt (Int.fdiv y1 (2 ^ (min (Int.toNat (24)) 32))),UInt8.ofInt (Int.fdiv y1 (2 ^ (min (Int.toNat (16)) 32))),UInt8.ofInt (Int.fdiv y1 (2 ^ (min (Int.toNat (8)) 32))),UInt8.ofInt y1]:List UInt8)),.a 0 5 1 rB8 ((y2++([UInt8.ofInt (Int.fdiv y1 (2 ^ (min (Int.toNat (24)) 32))),UInt8.ofInt (Int.fdiv y1 (2 ^ (min (Int.toNat (16)) 32))),UInt8.ofInt (Int.fdiv y1 (2 ^ (min (Int.toNat (8)) 32))),UInt8.ofInt y1]:List UInt8))++v0b)] rfl ⟨s22.a rfl rfl rfl rfl hk5,s22.a rfl rfl rfl rfl hk4,g_buildSliceN (n:=4) (rows:=([UInt8.ofInt (Int.fdiv y1 (2 ^ (min (Int.toNat (24)) 32))),UInt8.ofInt (Int.fdiv y1 (2 ^ (min (Int.toNat (16)) 32))),UInt8.ofInt (Int.fdiv y1 (2 ^ (min (Int.toNat (8)) 32))),UInt8.ofInt y1]:List UInt8).map rB8) underlying22 hi5 hs5 hz5 rfl rfl rfl rfl rfl,OpQ.g (q_conv8 underlying90 underlying5 rfl),OpQ.g (q_conv8 underlying90 underlying5 rfl),OpQ.g (q_shr (a:=y1) (b:=8) rfl rfl hk3 rfl),OpQ.g (q_conv8 underlying90 underlying5 rfl),OpQ.g (q_shr (a:=y1) (b:=16) rfl rfl hk2 rfl),OpQ.g (q_conv8 underlying90 underlying5 rfl),OpQ.g (q_shr (a:=y1) (b:=24) rfl rfl hk1 rfl)⟩ ?_
  refine .R func34 results34 rfl ?_
  cases H
  exact .m rfl (.tupL ⟨.tsl _ _ _,.rfl' _,trivial⟩)
theorem c_f_w12_guarded {v0payloads:List (List UInt8)} {v1at:Int} {r:Bool} (H:f_w12_guarded v0payloads v1at=some r):ACall prog 15 [slOf 1 (rSl 1 rB8) v0payloads,cI v1at] (·=cB r):=by
 obtain ⟨i22,hi22,hz22,hs22,hb22⟩:=in_22
 refine ACall.enter' func15 rfl ntmps15 rfl fun S hS=>?_
 unfold f_w12_guarded at H
 refine .A 14 [] rfl trivial ?_
 obtain ⟨n1,H⟩:=loop_some H
 refine .loop (ι:=Nat×(Int×Int)) (fun ⟨_,v5froml1,v6il1⟩=>[(0,.d (slOf 1 (rSl 1 rB8) v0payloads)),(1,.d (cI v1at)),(5,.d (cI v5froml1)),(6,.d (cI v6il1))]) (fun ⟨_,v5froml1,v6il1⟩=>⟨[],[]⟩) (fun p=>iter (fun s=>f_w12_guarded_l1 v0payloads v1at s.1 s.2) p.1 p.2=some r) (·.1) (n1,(0,0)) H (.cons rfl (.rfl' _) (.cons rfl (.rfl' _) (.cons rfl (.rfl' _) (.cons rfl (.rfl' _) (.nil))))) rfl ?_
 rintro ⟨m1,v5froml1,v6il1⟩ HI ih1
 obtain ⟨n1,q1,hm1,H,HK1⟩:=iter_succ HI
 clear HI
 replace H:f_w12_guarded_l1 v0payloads v1at v5froml1 v6il1=some q1:=H
 unfold f_w12_guarded_l1 at H
 refine .A 8 [.i (v0payloads.length:Int)] rfl (s44.n rfl rfl) ?_
 refine .ite H rfl (fun H=>?_) (fun H=>?_)
 ·obtain ⟨hk1,H⟩:=ck_some H
  obtain ⟨y1,hy1,H⟩:=bind_some' H
  refine .A 22 [.d (.ro ((rSl 1 rB8) (nth v0payloads v6il1.toNat))),.d (.tup [slOf 1 rB8 y1.1,cI y1.2])] rfl ⟨g_call (en 125 rfl) rfl rfl (c_f_r08_Wrap (hy1)),s44.ix rfl rfl rfl hk1⟩ ?_
  refine .ite H rfl (fun H=>?_) (fun H=>?_)
  ·refine .A 4 [] rfl trivial ?_
   refine .R func15 results15 rfl ?_
   cases H
   cases HK1
   exact .m rfl (.rfl' _)
  ·obtain ⟨hk2,H⟩:=ck_some H
   obtain ⟨hk3,H⟩:=ck_some H
   obtain ⟨hk4,H⟩:=ck_some H
   obtain ⟨hk5,H⟩:=ck_some H
   obtain ⟨hk6,H⟩:=ck_some H
   refine .A 31 [.i (y1.1.length:Int),.i (v5froml1+(y1.1.length:Int)),.d (.ro ((rSl 1 rB8) (nth v0payloads v6il1.toNat))),.i ((nth v0payloads v6il1.toNat).length:Int),.i ((v5froml1+(y1.1.length:Int)) - ((nth v0payloads v6il1.toNat).length:Int)),.i (((v5froml1+(y1.1.length:Int)) - ((nth v0payloads v6il1.toNat).length:Int)) - 4),.i (y1.1.length:Int),.i (v5froml1+(y1.1.length:Int))] rfl ⟨rfl,rfl,rfl,fun hg=>g_addI rfl rfl (hk6 hg),rfl,rfl,fun hg=>s22.n rfl rfl,rfl,g_subI rfl rfl hk5,g_subI rfl rfl hk4,s22.n rfl rfl,s44.ix rfl rfl rfl hk3,g_addI rfl rfl hk2,s22.n rfl rfl⟩ ?_
   refine .ite H rfl (fun H=>?_) (fun H=>?_)
   ·refine .A 4 [] rfl trivial ?_
    refine .R func15 results15 rfl ?_
    cases H
    cases HK1
    exact .m rfl (.rfl' _)
   ·obtain ⟨hk7,H⟩:=ck_some H
    obtain ⟨hk8,H⟩:=ck_some H
    refine .A 14 [.i (y1.1.length:Int),.i (v5froml1+(y1.1.length:Int)),.i (v6il1+1)] rfl ⟨g_addI rfl rfl hk8,g_addI rfl rfl hk7,s22.n rfl rfl⟩ ?_
    cases H
    exact .z (ih1 (n1,(v5froml1+(y1.1.length:Int),v6il1+1)) HK1 hm1) rfl rfl
 ·refine .A 5 [] rfl trivial ?_
  refine .R func15 results15 rfl ?_
  cases H
  cases HK1
  exact .m rfl (.rfl' _)
theorem c_f_w12_BatchBack {v0:Batch} {v1:Billinglaw12Change} {r:Bool} (H:f_w12_BatchBack v0 v1=some r):ACall prog 4 [.agg (Batch.row v0),.agg (Billinglaw12Change.row v1)] (·=cB r):=by
 obtain ⟨i5,hi5,hz5,hs5,hb5⟩:=in_5
 obtain ⟨i25,hi25,hz25,hs25,hb25⟩:=in_25
 refine ACall.enter' func4 rfl ntmps4 rfl fun S hS=>?_
 unfold f_w12_BatchBack at H
 obtain ⟨y1,hy1,H⟩:=bind_some' H
 refine .A 14 [.r 0,.r 1,.b y1] rfl (g_call (en 126 rfl) rfl rfl (c_f_w12_few (hy1))) ?_
 refine .ite H rfl (fun H=>?_) (fun H=>?_)
 ·obtain ⟨y2,hy2,H⟩:=bind_some' H
  refine .A 5 [.b y2] rfl (g_call (en 108 rfl) rfl rfl (c_f_w12_awake (hy2))) ?_
  refine .R func4 results4 rfl ?_
  cases H
  exact .m rfl (.rfl' _)
 ·obtain ⟨y3,hy3,H⟩:=bind_some' H
  refine .A 17 [.d (.tup [slOf 1 rB8 y3.1,cI y3.2])] rfl (g_call (en 47 rfl) rfl rfl (c_f_batch_Write (hy3))) ?_
  refine .ite H rfl (fun H=>?_) (fun H=>?_)
  ·obtain ⟨y4,hy4,H⟩:=bind_some' H
   refine .A 10 [.i (y3.1.length:Int),.b y4] rfl ⟨rfl,fun hg=>g_call (en 108 rfl) rfl rfl (c_f_w12_awake (gcall_some hy4 hg)),s22.n rfl rfl⟩ ?_
   refine .R func4 results4 rfl ?_
   cases H
   exact .m rfl (.rfl' _)
  ·obtain ⟨y5,hy5,H⟩:=bind_some' H
   obtain ⟨y6,hy6,H⟩:=bind_some' H
   obtain ⟨y7,hy7,H⟩:=bind_some' H
   refine .A 60 [.d (.tup [.agg (Batch.row y5.1),slOf 4 Reject.row y5.2.1,cI y5.2.2]),.r 2,.d (.tup [.agg (Head.row y6.1),cI y6.2]),.r 3,.i (y5.2.1.length:Int),.b y7,.i (v0.records.length:Int),.d (.agg (Head.row (⟨v0.source,v0.number,v0.format,(v0.records.length:Int)⟩:Head))),.b (!(eqVs (Head.vals y6.1) (Head.vals (⟨v0.source,v0.number,v0.format,(v0.records.length:Int)⟩:Head))))] rfl ⟨rfl,fun hg=>OpQ.g (q_stneq fk_25 rfl rfl (xs:=Head.vals y6.1) (ys:=Head.vals (⟨v0.source,v0.number,v0.format,(v0.records.length:Int)⟩:Head)) rfl rfl rfl rfl),rfl,rfl,fun hg=>OpQ.g (q_buildP pl_25 hi25 hz25 rfl rfl),rfl,rfl,rfl,rfl,fun hg=>s29.n rfl rfl,rfl,rfl,rfl,rfl,rfl,rfl,rfl,fun hg=>g_call (en 110 rfl) rfl rfl (c_f_r12_Same (gcall_some hy7 hg)),rfl,rfl,rfl,rfl,fun hg=>s32.n rfl rfl,rfl,rfl,rfl,g_call (en 46 rfl) rfl rfl (c_f_batch_Head (hy6)),g_call (en 112 rfl) rfl rfl (c_f_batch_Read (hy5))⟩ ?_
   refine .ite H rfl (fun H=>?_) (fun H=>?_)
   ·refine .A 4 [] rfl trivial ?_
    refine .R func4 results4 rfl ?_
    cases H
    exact .m rfl (.rfl' _)
   ·obtain ⟨hk1,H⟩:=ck_some H
    obtain ⟨y8,hy8,H⟩:=bind_some' H
    obtain ⟨y9,hy9,H⟩:=bind_some' H
    refine .A 34 [.p 28,.i (y3.1.length:Int),.d (.ro (rB8 (nth y3.1 v1.at_.toNat))),.b ((nth y3.1 v1.at_.toNat)==v1.to_),.d (slOf 1 (rSl 1 rB8) y8),.b y9] rfl ⟨rfl,rfl,fun hg=>g_call (en 127 rfl) rfl rfl (c_f_w12_guarded (gcall_some hy9 hg)),rfl,rfl,rfl,fun hg=>g_call (en 128 rfl) rfl rfl (c_f_r12_Payloads (gcall_some hy8 hg)),rfl,rfl,fun hg=>OpQ.g (q8_eql (a:=nth y3.1 v1.at_.toNat) (b:=v1.to_) rfl rfl),rfl,rfl,rfl,rfl,fun hg=>s22.ix rfl rfl rfl (hk1 hg),rfl,rfl,rfl,rfl,rfl,rfl,fun hg=>s22.n rfl rfl,rfl,rfl,(show drawB _ _=true by kernel_rfl)⟩ ?_
    refine .ite H rfl (fun H=>?_) (fun H=>?_)
    ·obtain ⟨y10,hy10,H⟩:=bind_some' H
     refine .A 5 [.b y10] rfl (g_call (en 108 rfl) rfl rfl (c_f_w12_awake (hy10))) ?_
     refine .R func4 results4 rfl ?_
     cases H
     exact .m rfl (.rfl' _)
    ·obtain ⟨hk2,H⟩:=ck_some H
     obtain ⟨hk3,H⟩:=ck_some H
     obtain ⟨hk4,H⟩:=ck_some H
     refine .B 21 [.n (.vc 0 ((([]:List UInt8)).length)) ⟨5,1,((([]:List UInt8)).length),some (([]:List UInt8).map rB8)⟩,.t (.vc 0 ((([]:List UInt8)++y3.1).length)) 0 ⟨5,1,((([]:List UInt8)++y3.1).length),some ((([]:List UInt8)++y3.1).map rB8)⟩,.g (.vp 0 ((([]:List UInt8)++y3.1).length) v1.at_.toNat 0),.w 5 ⟨[.row 31 [.d (cI v0.source),.d (cI v0.number),.d (cI v0.format),.d (slOf 12 Record.row v0.records)],.row 39 [.d (cI v1.at_),.d (cU8 v1.to_)],.row 31 [.d (cI y5.1.source),.d (cI y5.1.number),.d (cI y5.1.format),.d (slOf 12 Record.row y5.1.records)],.row 25 [.d (cI y6.1.source),.d (cI y6.1.number),.d (cI y6.1.format),.d (cI y6.1.count)]],[⟨5,1,((([]:List UInt8)++y3.1).length),some (((([]:List UInt8)++y3.1).set v1.at_.toNat v1.to_).map rB8)⟩]⟩] rfl ⟨.e (u_storeV (l:=([]:List UInt8)++y3.1) (row:=rB8) (a:=v1.to_) rfl rfl hk4 rfl rfl sz_5 rfl (Nat.le_of_ble_eq_true rfl) rfl) rfl,OpQ.g (q_idxV (l:=([]:List UInt8)++y3.1) (row:=rB8) (i:=v1.at_) underlying22 hi5 hs5 rfl rfl rfl hk3),.e (v_appendV (l:=([]:List UInt8)) (l':=y3.1) (row:=rB8) underlying22 hi5 hz5 hs5 rfl (by rw [hb5]; decide) rfl rfl rfl rfl hk2) rfl,.e (v_build0V rB8 underlying22 hi5 hs5) rfl⟩ ?_
     refine .freezeL (l:=(([]:List UInt8)++y3.1).set v1.at_.toNat v1.to_) (row:=rB8) (i:=115) rfl rfl ?_
     obtain ⟨y11,hy11,H⟩:=bind_some' H
     obtain ⟨y12,hy12,H⟩:=bind_some' H
     refine .A 19 [.d (.tup [.agg (Batch.row y11.1),slOf 4 Reject.row y11.2.1,cI y11.2.2]),.r 4,.b y12] rfl ⟨rfl,fun hg=>g_call (en 108 rfl) rfl rfl (c_f_w12_awake (gcall_some hy12 hg)),g_call (en 112 rfl) rfl rfl (c_f_batch_Read (hy11))⟩ ?_
     refine .R func4 results4 rfl ?_
     cases H
     exact .m rfl (.rfl' _)
end Go.Proofs.YthoengcicaicoaaGreatDoor
namespace Go.Abs
open Go.RowKit Go.ChangeShapes Go.WideShapes Go.Deep
inductive Sh where
 | i (k:IntKind)
 | b
 | s
 | sl (row:List Sh)
inductive DFits:Sh→D→Prop where
 | i (k:IntKind) (n:Int) (h:(Lit.int k n).wf=true):DFits (.i k) (.ex (.int k n))
 | b (x:Bool):DFits .b (.ex (.bool x))
 | s (l:List UInt8) (h:l.length≤maxLen):DFits .s (.ex (.string ⟨l.toArray⟩))
 | sl (row:List Sh) (rows:List (List D)) (hn:rows.length≤maxLen) (h1:∀ r,r∈rows→r.length=row.length)
   (h:∀ r,r∈rows→∀ (i:Nat) sh d,row[i]?=some sh→r[i]?=some d→DFits sh d):DFits (.sl row) (.sl row.length rows)
def shapeFs (P:Program) (rec:TypeId→Option (List Sh)):List Field→Nat→Option (List Sh)
 | [],_=>some []
 | f :: fs,off=>match rec f.type with
  | some r=>if Nat.beq f.offset off && Nat.beq r.length (P.cellsOf f.type) then (shapeFs P rec fs (off+r.length)).map (r++·) else none
  | none=>none
def shape (P:Program):Nat→TypeId→Option (List Sh)
 | 0,_=>none
 | n+1,t=>match P.underlying t with
  | some (.int k)=>some [.i k]
  | some .bool=>some [.b]
  | some .string=>some [.s]
  | some (.slice e)=>match shape P n e with
   | some r=>if Nat.beq r.length (P.cellsOf e) && Nat.blt 0 r.length then some [.sl r] else none
   | none=>none
  | some (.struct fs)=>match shapeFs P (shape P n) fs.toList 0 with
   | some r=>if Nat.beq r.length (P.cellsOf t) then some r else none
   | none=>none
  | _=>none
def Opens (lim:Nat→Nat) (w:World) (shs:List Sh) (cs:List Value):Prop :=
 ∃ ds:List D,ds.length=shs.length∧cs.length=shs.length∧∀ (i:Nat) sh d c,shs[i]?=some sh→ds[i]?=some d→cs[i]?=some c→DFits sh d∧DRep lim w d c∧c.oneCell'=true
theorem Opens.one {lim:Nat→Nat} {w:World} {sh:Sh} {d:D} {c:Value} (h1:DFits sh d) (h2:DRep lim w d c) (h3:c.oneCell'=true):Opens lim w [sh] [c]:=by
 refine ⟨[d],rfl,rfl,fun i sh' d' c' ha hb hc=>?_⟩
 cases i with
 | zero=>simp at ha hb hc; subst ha; subst hb; subst hc; exact ⟨h1,h2,h3⟩
 | succ i=>simp at ha
theorem Opens.nil {lim:Nat→Nat} {w:World}:Opens lim w [] []:=⟨[],rfl,rfl,fun i _ _ _ h=>by simp at h⟩
theorem Opens.append {lim:Nat→Nat} {w:World} {s1 s2:List Sh} {c1 c2:List Value} (h:Opens lim w s1 c1) (k:Opens lim w s2 c2):Opens lim w (s1++s2) (c1++c2):=by
 obtain ⟨d1,a1,b1,e1⟩:=h
 obtain ⟨d2,a2,b2,e2⟩:=k
 refine ⟨d1++d2,by simp [a1,a2],by simp [b1,b2],fun i sh d c ha hb hc=>?_⟩
 by_cases hi:i < s1.length
 ·rw [List.getElem?_append_left hi] at ha
  rw [List.getElem?_append_left (by omega)] at hb hc
  exact e1 i sh d c ha hb hc
 ·rw [List.getElem?_append_right (by omega)] at ha hb hc
  rw [a1] at hb
  rw [b1] at hc
  exact e2 _ sh d c ha hb hc
section opening
variable {H:Type} {enc:TypeId×Value→H} {P:Program} {w:World} {held:Bool} {lim:Nat→Nat}
theorem opens_fields {rec:TypeId→Option (List Sh)} (cs:List Value):∀ (fs:List Field) (off:Nat) (shs:List Sh),shapeFs P rec fs off=some shs→cs.length=off+shs.length →
  (∀ (i:Nat) f,fs[i]?=some f→∀ r,rec f.type=some r→r.length=P.cellsOf f.type→Opens lim w r ((cs.drop f.offset).take (P.cellsOf f.type)))→Opens lim w shs (cs.drop off)
 | [],off,shs,h,hl,_=>by
  simp [shapeFs] at h; subst h
  rw [List.drop_of_length_le (by simp at hl; omega)]
  exact .nil
 | f :: fs,off,shs,h,hl,hf=>by
  unfold shapeFs at h
  split at h
  ·rename_i r hr
   split at h
   ·rename_i hc
    rw [Bool.and_eq_true] at hc
    replace hc:=And.intro (Nat.eq_of_beq_eq_true hc.1) (Nat.eq_of_beq_eq_true hc.2)
    obtain ⟨rest,hrest,rfl⟩:=Option.map_eq_some_iff.1 h
    simp only [List.length_append] at hl
    have h1:=hf 0 f rfl r hr hc.2
    have h2:=opens_fields cs fs (off+r.length) rest hrest (by omega) fun i g hg=>hf (i+1) g (by simpa using hg)
    have e:cs.drop off=(cs.drop f.offset).take (P.cellsOf f.type)++cs.drop (off+r.length):=by
     rw [hc.1,←hc.2,←List.drop_drop,List.take_append_drop]
    rw [e]
    exact h1.append h2
   ·cases h
  ·cases h
theorem opens_shape (hlim:∀ b off u,w.cell? ⟨b,off,none⟩=some u→off < lim b):∀ (n:Nat) (t:TypeId) (shs:List Sh),shape P n t=some shs→∀ fuel cs x,DataW.trod enc P w 0 (fun _=>true) held fuel t cs=some x→Opens lim w shs cs
 | 0,_,_,h=>by simp [shape] at h
 | n+1,t,shs,h=>by
  intro fuel cs x ht
  unfold shape at h
  split at h
  ·rename_i k hu
   cases h
   obtain ⟨m,rfl,_,hw⟩:=DataW.trod_int hu ht
   exact .one (.i k m hw) (.ex _) rfl
  ·rename_i hu
   cases h
   obtain ⟨b,rfl,_⟩:=DataW.trod_bool hu ht
   exact .one (.b b) (.ex _) rfl
  ·rename_i hu
   cases h
   obtain ⟨⟨a⟩,rfl,_,hs⟩:=DataW.trod_string hu ht
   exact .one (.s a.toList (by simpa [ByteArray.size] using hs)) (.ex _) rfl
  ·rename_i e hu
   split at h
   ·rename_i r hr
    split at h
    ·rename_i hc
     cases h
     rw [Bool.and_eq_true] at hc
     obtain ⟨hc1,hc2⟩:=And.intro (Nat.eq_of_beq_eq_true hc.1) (blt_lt hc.2)
     rcases open_slice hu ht with ⟨rfl,_⟩ | ⟨a,len,cap,m,n',D0,Pl,rfl,hb,hl,hm,hmm,hx,hi⟩
     ·exact .one (.sl r [] (Nat.zero_le _) (fun _ h=>by cases h) (fun _ h=>by cases h)) (.nil _ _) rfl
     ·simp only [if_true] at hmm
      subst hmm
      obtain ⟨F,hF⟩:=choose_lt (n:=m) (p:=fun i (ds:List D)=>ds.length=r.length∧∀ (j:Nat) sh d,r[j]?=some sh→ds[j]?=some d→∃ c,w.cell? (a.add (i*r.length+j))=some c∧DFits sh d∧DRep lim w d c∧c.oneCell'=true) (fun i hi'=>by
       obtain ⟨cs',h1,h2⟩:=hi i hi'
       obtain ⟨ds,k1,k2,k3⟩:=opens_shape hlim n e r hr n' cs' _ h2
       obtain ⟨_,h3,h4⟩:=World.cells?_some h1
       refine ⟨ds,k1,fun j sh d hj hd=>?_⟩
       have hjl:j < r.length:=(List.getElem?_eq_some_iff.1 hj).1
       have hc':cs'[j]?=some (cs'[j]'(by omega)):=List.getElem?_eq_getElem (by omega)
       refine ⟨cs'[j]'(by omega),?_,k3 j sh d _ hj hd hc'⟩
       rw [←hc',←h4 j (by omega),←hc1,Go.Deep.add_add])
      have hfit:DFits (.sl r) (.sl r.length ((List.range len).map F)):=by
       refine .sl r _ (by simp; omega) (fun row hrow=>?_) fun row hrow i sh d hs hd=>?_
       ·obtain ⟨i,hi2,rfl⟩:=List.mem_map.1 hrow
        exact (hF i (by have:=List.mem_range.1 hi2; omega)).1
       ·obtain ⟨i',hi2,rfl⟩:=List.mem_map.1 hrow
        obtain ⟨c,_,hh,_⟩:=(hF i' (by have:=List.mem_range.1 hi2; omega)).2 i sh d hs hd
        exact hh
      refine .one hfit ?_ rfl
      rcases Nat.eq_zero_or_pos m with h0 | h0
      ·subst h0
       have:len=0:=by omega
       subst this
       exact .nil _ _
      ·have hspot:a.spot=none:=by
        obtain ⟨cs',h1,h2⟩:=hi 0 h0
        obtain ⟨_,h3,h4⟩:=World.cells?_some h1
        have h5:=h4 0 (by omega)
        have h6:cs'[0]?=some (cs'[0]'(by omega)):=List.getElem?_eq_getElem (by omega)
        rw [h6] at h5
        unfold World.cell? at h5
        split at h5
        ·split at h5
         ·cases h5
         ·rename_i hsp
          simpa [Addr.add] using hsp
        ·cases h5
       obtain ⟨b,off,sp⟩:=a
       simp only at hspot
       subst hspot
       have hcell:∀ i j,i < m→j < r.length→∀ sh d,r[j]?=some sh→(F i)[j]?=some d→∃ c,w.cell? ⟨b,off+(i*r.length+j),none⟩=some c∧DFits sh d∧DRep lim w d c∧c.oneCell'=true:=fun i j hi' hj sh d hs hd=>by
        obtain ⟨c,h1,h2⟩:=(hF i hi').2 j sh d hs hd
        rw [Addr.add_lit] at h1
        exact ⟨c,h1,h2⟩
       have hlen:((List.range len).map F).length=len:=by simp
       have key:=DRep.sl (lim:=lim) (w:=w) r.length ((List.range len).map F) b off m (by rw [hlen]; exact hl) (fun row hrow=>by
        obtain ⟨i,hi2,rfl⟩:=List.mem_map.1 hrow
        exact (hF i (by have:=List.mem_range.1 hi2; omega)).1) (fun k hk=>by
        rw [hlen] at hk
        have hdiv:k / r.length < len:=Nat.div_lt_of_lt_mul (by rw [Nat.mul_comm]; exact hk)
        have hmod:k % r.length < r.length:=Nat.mod_lt _ hc2
        obtain ⟨c,h1,h2,h3,h4⟩:=hcell (k / r.length) (k % r.length) (by omega) hmod _ _ (List.getElem?_eq_getElem hmod) (List.getElem?_eq_getElem (by rw [(hF _ (by omega)).1]; exact hmod))
        have e:k / r.length*r.length+k % r.length=k:=by rw [Nat.mul_comm]; exact Nat.div_add_mod k r.length
        rw [e] at h1
        exact ⟨hlim _ _ _ h1,c,h1,h4⟩) (fun i j row c u h1 h2 h3=>by
        rw [List.getElem?_map] at h1
        obtain ⟨i',hi2,rfl⟩:=Option.map_eq_some_iff.1 h1
        have hil:i < len:=by have:=(List.getElem?_eq_some_iff.1 hi2).1; simpa using this
        have:i'=i:=by rw [List.getElem?_range hil] at hi2; cases hi2; rfl
        subst this
        have hjl:j < r.length:=by have:=(List.getElem?_eq_some_iff.1 h2).1; rw [(hF _ (by omega)).1] at this; exact this
        obtain ⟨c',k1,k2,k3,k4⟩:=hcell i' j (by omega) hjl _ _ (List.getElem?_eq_getElem hjl) h2
        rw [h3] at k1
        cases k1
        exact k3)
       rw [hlen] at key
       exact key
    ·cases h
   ·cases h
  ·rename_i fs hu
   split at h
   ·rename_i r hr
    split at h
    ·rename_i hc
     cases h
     have hc':=Nat.eq_of_beq_eq_true hc
     obtain ⟨ys,n',_,hy,hlen,hyl,hf⟩:=DataW.trod_struct hu ht
     have:=opens_fields (lim:=lim) (w:=w) (P:=P) cs fs.toList 0 _ hr (by omega) fun i f hi r' hr' hl'=>by
      have h1:=hf i f (by simpa using hi)
      have hys:ys[i]?=some (ys[i]'(by have:=(List.getElem?_eq_some_iff.1 hi).1; simp at this; omega)):=List.getElem?_eq_getElem _
      exact opens_shape hlim n f.type r' hr' n' _ _ (h1.trans hys)
     simpa using this
    ·cases h
   ·cases h
  ·cases h
end opening
end Go.Abs
namespace Go.Abs
open Go.RowKit Go.ChangeShapes Go.WideShapes Go.Deep Go.ChangeAt
def limW (w:World) (b:Nat):Nat:=match w.heap[b]? with
 | some (.cells c _ _)=>c.size
 | _=>0
theorem limW_lt (w:World) (b off:Nat) (u:Value) (h:w.cell? ⟨b,off,none⟩=some u):off < limW w b:=by
 unfold World.cell? at h
 unfold limW
 split at h
 ·rename_i c e k hb
  simp only at hb
  rw [hb]
  simp only [Option.isSome_none,Bool.false_eq_true,if_false] at h
  exact (Array.getElem?_eq_some_iff.1 h).1
 ·cases h
section top
variable {H:Type} {enc:TypeId×Value→H} {P:Program} {w:World} {held:Bool} {r:Reach} {b0:Nat} {t:TypeId} {v:Value} {d:DataW H} {ps:List MemPlace}
end top
theorem rows_of {α:Type} {row:α→List D} {p:α→Prop}:∀ {rows:List (List D)},(∀ r,r∈rows→∃ x,p x∧r=row x)→∃ l:List α,rows=l.map row∧∀ x,x∈l→p x
 | [],_=>⟨[],rfl,fun x h=>by cases h⟩
 | r :: rows,h=>by
  obtain ⟨x,hx,rfl⟩:=h r List.mem_cons_self
  obtain ⟨l,rfl,hl⟩:=rows_of (rows:=rows) (row:=row) (p:=p) fun r' hr=>h r' (List.mem_cons_of_mem _ hr)
  exact ⟨x :: l,rfl,fun y hy=>by rcases List.mem_cons.1 hy with rfl | hy; exact hx; exact hl y hy⟩
theorem DFits.sl_inv {row:List Sh} {d:D} (h:DFits (.sl row) d):∃ rows,d=.sl row.length rows∧rows.length≤maxLen∧∀ r,r∈rows→r.length=row.length∧∀ (i:Nat) sh d,row[i]?=some sh→r[i]?=some d→DFits sh d:=by
 cases h with
 | sl _ rows hn h1 h=>exact ⟨rows,rfl,hn,fun r hr=>⟨h1 r hr,h r hr⟩⟩
theorem DFits.i_inv {d:D} (h:DFits (.i .i64) d):∃ n:Int,d=.ex (.int .i64 n)∧-9223372036854775808≤n∧n≤9223372036854775807:=by
 cases h with
 | i _ n hw=>simp only [Lit.wf,Bool.and_eq_true,decide_eq_true_eq] at hw; exact ⟨n,rfl,hw⟩
theorem DFits.b_inv {d:D} (h:DFits .b d):∃ x:Bool,d=.ex (.bool x):=by cases h with | b x=>exact ⟨x,rfl⟩
section
variable {H:Type} {enc:TypeId×Value→H} {P:Program}
theorem post_of_below {f:Func} {s:ChangeSpec} {apart fresh handsOn again:Bool} {W W':World} {args:Array Value} {v:Value} {ds gs:List (DataW H)} {before pa pv:List MemPlace}
  (hW:DataW.Whole enc P f.params.toList s.vars apart W args.toList ds gs before)
  (hres:∀ (b:Nat) (sp:Nat→Bool) (hd:Bool),DataW.TrodAll enc P W' b sp hd f.resultTypes.toList (v.resultList f.resultTypes.size) (s.fn H (ds++gs)).results [])
  (hargs:∀ sp:Nat→Bool,(∀ p∈before,sp p.block=true)→DataW.TrodAll enc P W' 0 sp true f.params.toList args.toList (s.fn H (ds++gs)).args pa)
  (hvars:∀ sp:Nat→Bool,(∀ p∈before,sp p.block=true)→DataW.TrodVars enc P W' sp s.vars (s.fn H (ds++gs)).vars pv)
  (hps:before=pa++pv) (hb:Below W.heap.size W W')
  (hok:∀ (j:Nat) (t:TypeId) (r:Value),f.resultTypes[j]?=some t→(v.resultList f.resultTypes.size)[j]?=some r→Value.okWide P W' .any 0 t r) :
  s.post enc P f apart fresh handsOn again W args v W':=by
 have hlt:∀ p∈before,p.block < W.heap.size:=fun p hp=>hW.lt p hp
 have hold:∀ p∈before,(fun b=>decide (b < W.heap.size)) p.block=true:=fun p hp=>by simpa using hlt p hp
 refine ⟨ds,gs,before,[],pa,pv,hW,hres _ _ _,hargs _ hold,hvars _ hold,World.keptBut_mono (fun p hp=>⟨hp,?_⟩) (hb.frame (·∈before)),fun _=>?_⟩
 ·rw [hps,List.mem_append] at hp
  exact Or.inr hp
 ·obtain ⟨_,_,_,_,_,hz,hn⟩:=hW
  refine ⟨hok,_,_,([]++pa)++pv,⟨[]++pa,pv,trodAll_append (hargs _ (fun _ _=>rfl)) (hres _ _ _),hvars _ (fun _ _=>rfl),rfl,?_,?_⟩,?_⟩
  ·intro b off hp
   have hin:MemPlace.cell b off∈before:=by rw [hps]; simpa using hp
   rw [hb.frozen (hlt _ hin)]
   exact hz b off hin
  ·intro ha
   have:=hn ha
   rw [hps] at this
   simpa using this
  ·intro p hp _
   rw [hps]
   simpa using hp
end
theorem trodAll_stays {H:Type} {enc:TypeId×Value→H} {P:Program} (hl:laidOutB P=true) {W W':World} (hb:Below W.heap.size W W') (sp:Nat→Bool):∀ {ts:List TypeId} {vs:List Value} {ds:List (DataW H)} {ps:List MemPlace},
  (ts.all fun t=>P.readableRec t && decide (t < P.types.size))=true→DataW.TrodAll enc P W 0 (fun _=>true) true ts vs ds ps→(∀ x∈ps,x.block < W.heap.size)→(∀ x∈ps,sp x.block=true)→DataW.TrodAll enc P W' 0 sp true ts vs ds ps
 | [],[],[],_,_,h,_,_=>h
 | t :: ts,v :: vs,d :: ds,ps,hr,h,hlt,hsp=>by
  obtain ⟨p,q,h1,h2,rfl⟩:=h
  simp only [List.all_cons,Bool.and_eq_true,decide_eq_true_eq] at hr
  refine ⟨p,q,?_,?_,rfl⟩
  ·exact WideElems.Trod_stays hl hr.1.1 hr.1.2 h1 (fun x hx=>hb.same (hlt x (List.mem_append_left _ hx))) (fun x hx=>hsp x (List.mem_append_left _ hx))
  ·exact trodAll_stays hl hb sp (by simpa using hr.2) h2 (fun x hx=>hlt x (List.mem_append_right _ hx)) (fun x hx=>hsp x (List.mem_append_right _ hx))
theorem DFits.s_inv' {d:D} (h:DFits .s d):∃ l:List UInt8,d=.ex (.string ⟨l.toArray⟩)∧l.length≤maxLen:=by cases h with | s l h=>exact ⟨l,rfl,h⟩
theorem rows_of' {α:Type} {row:α→List D} {p:α→Prop} {rows:List (List D)} (h:∀ r,r∈rows→∃ x,r=row x∧p x):∃ l:List α,rows=l.map row∧∀ x,x∈l→p x :=
 rows_of fun r hr=>let ⟨x,h1,h2⟩:=h r hr; ⟨x,h2,h1⟩
theorem DFits.sl_of {sh:List Sh} {d:D} {α:Type} {row:α→List D} {p:α→Prop} (h:DFits (.sl sh) d)
  (hr:∀ r:List D,r.length=sh.length→(∀ (i:Nat) h d,sh[i]?=some h→r[i]?=some d→DFits h d)→∃ x,r=row x∧p x) :
  ∃ l:List α,d=.sl sh.length (l.map row)∧l.length≤maxLen∧∀ z,z∈l→p z:=by
 obtain ⟨rows,rfl,hn,h2⟩:=h.sl_inv
 obtain ⟨l,rfl,hl⟩:=rows_of' (row:=row) (p:=p) fun r hrm=>hr r (h2 r hrm).1 (h2 r hrm).2
 exact ⟨l,rfl,by simpa using hn,hl⟩
theorem ofB8 (r:List D) (h1:r.length=1) (h2:∀ (i:Nat) sh d,([.i .u8]:List Sh)[i]?=some sh→r[i]?=some d→DFits sh d):∃ x:UInt8,r=rB8 x∧True:=by
 match r,h1 with
 | [d],_ =>
  have h:=h2 0 _ d rfl rfl
  cases h with
  | i _ n hw =>
   simp [Lit.wf,IntKind.min,IntKind.max,IntKind.signed,IntKind.bits] at hw
   refine ⟨UInt8.ofNat n.toNat,?_,trivial⟩
   have:((UInt8.ofNat n.toNat).toNat:Int)=n:=by simp [UInt8.toNat_ofNat']; omega
   unfold rB8
   rw [this]
section top
variable {H:Type} {enc:TypeId×Value→H} {P:Program} {w:World} {held:Bool} {r:Reach} {b0:Nat} {t:TypeId} {v:Value} {d:DataW H} {ps:List MemPlace}
theorem top_agg {n:Nat} {shs:List Sh} {fs:Array Field} (hs:shape P n t=some shs) (ht:P.underlying t=some (.struct fs)) (hv:Value.okWide P w r b0 t v) (h:DataW.Trod enc P w 0 (fun _=>true) held t v d ps) :
  ∃ x:List D,x.length=shs.length∧(∀ (i:Nat) sh d,shs[i]?=some sh→x[i]?=some d→DFits sh d)∧DRep (limW w) w (.agg x) v:=by
 obtain ⟨cs,rfl,_⟩:=okWide_struct ht hv
 obtain ⟨fuel,hf⟩:=h
 obtain ⟨ds,h1,h2,h3⟩:=opens_shape (limW_lt w) n t _ hs fuel _ _ hf
 have h2':cs.size=shs.length:=by simpa [Value.cells] using h2
 refine ⟨ds,h1,fun i sh d hi hd=>?_,.agg ds cs (by omega) (fun i u hu=>?_) fun i c u hc hu=>?_⟩
 ·have hil:i < cs.size:=by have:=(List.getElem?_eq_some_iff.1 hi).1; omega
  exact (h3 i sh d cs[i] hi hd (by simp [Value.cells,hil])).1
 ·have hil:i < shs.length:=by have:=(Array.getElem?_eq_some_iff.1 hu).1; omega
  exact (h3 i shs[i] (ds[i]'(by omega)) u (List.getElem?_eq_getElem hil) (List.getElem?_eq_getElem (by omega)) (by simpa [Value.cells] using hu)).2.2
 ·have hil:i < shs.length:=by have:=(Array.getElem?_eq_some_iff.1 hu).1; omega
  exact (h3 i shs[i] c u (List.getElem?_eq_getElem hil) hc (by simpa [Value.cells] using hu)).2.1
end top
end Go.Abs
namespace Go.Proofs.YthoengcicaicoaaGreatDoor
open Go.RowKit Go.ChangeShapes Go.WideShapes Go.ChangeAt Go.Abs
theorem own:ownKnob Tryz.prog.godebug=none:=by kernel_rfl
theorem laidOut:laidOutB Tryz.prog=true:=by kernel_rfl
section
variable {H:Type} {enc:TypeId×Value→H}
theorem returnsInHanded_and_shaped {a:Assume} {C:Checked} {os:Os} {f:FuncId} {fn:Func} {s:ChangeSpec} {conds:List PathCond} {apart fresh handsOn again:Bool} {X:World→Array Value→Prop}
  (hX:∀ (w w':World) (args:Array Value),w.heap=w'.heap→X w args→X w' args)
  (own:ownKnob C.prog.godebug=none) (started:os.Started) (noInit:C.prog.inits.idxOf? f=none) (hfn:C.prog.funcs[f]?=some fn)
  (witness:∃ (w:World) (tape:Tape) (i:Input),w.os=os∧(w.forCall tape i).Shaped C.prog∧i.vars=[]∧Input.okWide C.prog (w.forCall tape i) .any w.heap.size f i ∧
   ((s.pre enc C.prog fn conds apart (w.forCall tape i).memory i.args∧X (w.forCall tape i).memory i.args)∧sizedMet enc C.prog fn (OpenSpec.ofChange s) apart (w.forCall tape i).memory i.args)∧a.holds C.prog (lone (Frame.enter C.prog f i.args .normal) [] (w.forCall tape i)))
  (contract:∀ (W:World) (base:Nat) (args:Array Value) (ds gs:List (DataW H)) (before:List MemPlace),
   (∀ (j:Nat) t v,fn.params[j]?=some t→args[j]?=some v→Value.okWide C.prog W .any base t v) →
   DataW.Whole enc C.prog fn.params.toList s.vars apart W args.toList ds gs before →
   conds.all (PathCond.test C.prog ⟨fn.params.toList,ds,s.plain.varTypes C.prog,gs⟩)=true →
   (DataW.weightsEach C.prog (fn.params.toList++s.plain.varTypes C.prog) (ds++gs)).all (·≤reachBytes)=true→X W args →
   W.ShapedOpen C.prog →
   a.holds C.prog (lone (Frame.enter C.prog f args .normal) [] W) →
   Calls C.prog f args W fun e W'=>∃ v,e=.returned v∧s.post enc C.prog fn apart fresh handsOn again W args v W') :
  ReturnsInHanded a C os f .any (fun w args=>(s.pre enc C.prog fn conds apart w args∧X w args)∧sizedMet enc C.prog fn (OpenSpec.ofChange s) apart w args) (s.post enc C.prog fn apart fresh handsOn again):=by
 refine returnsInHanded_of_calls own started noInit witness ?_
 intro w tape i _ hsh _ hok hpre hholds
 obtain ⟨_,_,_,fn',hfn',_,_,_,_,hval⟩:=hok
 have e:fn'=fn:=Option.some.inj (hfn'.symm.trans hfn)
 subst e
 obtain ⟨⟨⟨ds,gs,before,hw,hc⟩,hx⟩,hz⟩:=hpre
 have hw':=DataW.Whole.of_heap (w':=w.forCall tape i) (by rfl) hw
 refine (contract (w.forCall tape i) w.heap.size i.args ds gs before hval hw' hc (hz.weights hw) (hX _ _ _ (by rfl) hx) hsh hholds).mono fun e W' ⟨v,he,hp⟩=>?_
 subst he
 exact ChangeSpec.post_blind hp
end
def laidL:List (String×DataW Unit):=[("math/bits.deBruijn32tab",Rows.laid_math_bits_deBruijn32tab),("math/bits.deBruijn64tab",Rows.laid_math_bits_deBruijn64tab),("internal/strconv.uint64pow10",Rows.laid_internal_strconv_uint64pow10),("unicode/utf8.acceptRanges",Rows.laid_unicode_utf8_acceptRanges),("unicode/utf8.first",Rows.laid_unicode_utf8_first)]
theorem globs_of_laid {W:World} (h:laidMetH Tryz.prog laidL W) (hs:W.ShapedOpen Tryz.prog):Globs W.heap.size W:=by
 rw [MakeChecks.laidMetH_plain _ _ _ (by kernel_rfl)] at h
 have h1:=laidMet.filter (fun x=>x.1 == "internal/strconv.uint64pow10") h
 have h2:laidL.filter (fun x=>x.1 == "internal/strconv.uint64pow10")=[("internal/strconv.uint64pow10",Go.Lib.tabData .u64 Go.Lib.pow10Tab)]:=by kernel_rfl
 rw [h2] at h1
 have hn:Tryz.prog.globalNamed "internal/strconv.uint64pow10" = some 1:=by kernel_rfl
 have h3:=Go.Lib.tabIs_of_head (rest:=[]) hn (t:=182) (by kernel_rfl) Tryz.underlying182 Tryz.underlying122 (by kernel_rfl) (by kernel_rfl) h1
 obtain ⟨m,hm⟩:=cell_of_shapedOpen_int (P:=Tryz.prog) (g:=0) (t:=3) (zero:=#[.int .i64 0]) hs (of_decide_eq_true (by kernel_rfl)) (by kernel_rfl) rfl (by kernel_rfl) (by kernel_rfl) Tryz.underlying3
 unfold Go.Lib.TabIs World.var? at h3
 rw [hn] at h3
 simp only [Option.bind_some] at h3
 split at h3
 ·rename_i cs ty fr hb
  simp only [Option.some.injEq] at h3
  subst h3
  refine ⟨fun x hx=>?_,fun k hk=>?_⟩
  ·simp only [GL,List.mem_singleton] at hx
   subst hx
   exact ⟨(Array.getElem?_eq_some_iff.1 hb).1,ty,fr,hb⟩
  ·simp only [GI,List.mem_singleton] at hk
   subst hk
   exact ⟨World.block_lt_of_cell? W _ hm,m,hm⟩
 ·cases h3
end Go.Proofs.YthoengcicaicoaaGreatDoor
