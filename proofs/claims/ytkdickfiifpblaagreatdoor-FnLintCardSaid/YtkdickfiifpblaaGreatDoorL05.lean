/- Towards FnLint: Vm, Kr, Ks, Kt, DenInv, Ku, Kv, Kw, Vn, Ve, Da, Db, Dc. -/
import Derived.Test.YtkdickfiifpblaaGreatDoorL04
import Derived.Test.YtkdickfiifpblaaGreatDoorProg
import Derived.KernelRfl
namespace Go.Proofs.YtkdickfiifpblaaGreatDoor.D
open Go Go.Den Go.Proofs
theorem v25 : ∀ (hk : Hk) (plans : Nat->Plan) (x0_0 x0_1 x0_2 x0_3 x0_4 : AL) (S : St) (Q : AV->St->Prop),wFn cf25 hk Tryz.prog (tabY Tryz.prog) plans false 25 [.agg [x0_0,x0_1,x0_2,x0_3,x0_4]] S Q=(true=true/\∃ R,hk.1 17 [.agg [x0_0,x0_1,x0_2,x0_3,x0_4]] S [(30,[x0_0,x0_1,x0_2,x0_3,x0_4])] R/\∀ (x : AL) (S1 : St),R (.one x) S1->∃ n,x0_1.len?=some n/\hk.2 30 (codeOf Tryz.prog
 25 [1,1,1,0,1,0,0]) [.blk 0,.seq (codeOf Tryz.prog 25 [1,1,1,1])] (wEnd (tabY Tryz.prog) Tryz.f25 false S.boxes.length Q) [(13,.v (.one (.i 0))),(12,.v (.one (.i (↑n : Int)))),(11,.v (.one x0_1)),(10,.loc 0 1),(4,.v (.one (.sl (some S1.toks.length) 0 []))),(9,.v (.one (.sl (some S1.toks.length) 0 []))),(3,.v (.one x)),(8,.v (.one x)),(7,.v (.agg
 [x0_0,x0_1,x0_2,x0_3,x0_4])),(2,.v (.one .nilsl)),(1,.loc 0 0),(0,.v (.agg [x0_0,x0_1,x0_2,x0_3,x0_4]))] (S1.born (0,9,1))
 [(30,[x0_0,x0_1,x0_2,x0_3,x0_4])])
 := by intros; kernel_rfl
theorem b25_0 : ∀ (hk : Hk) (plans : Nat->Plan) (x0_1 x : AL) (n : Nat) (n13 : Int) (x4 xL0_0 xL0_1 xL0_2 xL0_3 xL0_4 : AL) (S : St) (K : QW),wCode cf25 hk Tryz.prog (tabY Tryz.prog) 30 plans 1000 (codeOf Tryz.prog 25 [1,1,1,0,1,0,0]) [] (fun e env S L => K e (restr [13,12,11,4,3,2] env) S L) [(13,.v (.one (.i n13))),(12,.v (.one (.i (↑n : Int)))),(11,.v (.one x0_1)),(4,.v
 (.one x4)),(3,.v (.one x)),(2,.v (.one .nilsl))] S [(30,[xL0_0,xL0_1,xL0_2,xL0_3,xL0_4])]=((decide (n13 < (↑n : Int))=true->∃ tok n_1 xs,x0_1=.sl tok n_1 xs/\0<=n13/\n13 < (↑n_1 : Int)/\true=true/\(∃ xs_1,likeCells [.str k_,.str k_,.str k_] xs_1=true/\List.take 3 (List.drop (n13.toNat * 3) xs)=xs_1)/\∀ (s s_1 s_2 : ByteArray),List.take 3 (List.drop (n13.toNat * 3) xs)=[.str
 s,.str s_1,.str s_2]->∃ R,hk.1 19 [.one x,.one (.str s_2)] S [(30,[xL0_0,xL0_1,xL0_2,xL0_3,xL0_4]),(48,[.str s,.str s_1,.str s_2])] R/\∀ (b : Bool) (S1 : St),R (.one (.bool b)) S1->((!b)=true->24=24/\∃ r S',dAppend2 (tabY Tryz.prog) 24 x4 (.sl (some S1.toks.length) 1 [.str s_2]) (S1.born (1,9,1))=some (r,S')/\in64 (n13 + 1)/\K .normal [(13,.v (.one (.i (n13 + 1)))),(12,.v (.one
 (.i (↑n : Int)))),(11,.v (.one x0_1)),(4,.v (.one r)),(3,.v (.one x)),(2,.v (.one .nilsl))] S' [(30,[xL0_0,xL0_1,xL0_2,xL0_3,xL0_4]),(48,[.str s,.str s_1,.str s_2])])/\((!b)=false->in64 (n13 + 1)/\K .normal [(13,.v (.one (.i (n13 + 1)))),(12,.v (.one (.i (↑n : Int)))),(11,.v (.one x0_1)),(4,.v (.one x4)),(3,.v (.one x)),(2,.v (.one .nilsl))] S1
 [(30,[xL0_0,xL0_1,xL0_2,xL0_3,xL0_4]),(48,[.str s,.str s_1,.str s_2])]))/\(decide (n13 < (↑n : Int))=false->K (.exit 0) [(13,.v (.one (.i n13))),(12,.v (.one (.i (↑n : Int)))),(11,.v (.one x0_1)),(4,.v (.one x4)),(3,.v (.one x)),(2,.v (.one .nilsl))] S
 [(30,[xL0_0,xL0_1,xL0_2,xL0_3,xL0_4])]))
 := by intros; kernel_rfl
theorem x25_0 : ∀ (hk : Hk) (plans : Nat->Plan) (x0_1 : AL) (S : St) (Q : AV->St->Prop) (x : AL) (n : Nat) (n13 : Int) (x4 xL0_0 xL0_1 xL0_2 xL0_3 xL0_4 : AL) (S_1 : St),wCode.wEx cf25 hk Tryz.prog (tabY Tryz.prog) 30 plans 1000 (.exit 0) [.blk 0,.seq (codeOf Tryz.prog 25 [1,1,1,1])] (wEnd (tabY Tryz.prog) Tryz.f25 false S.boxes.length Q) [(13,.v (.one (.i n13))),(12,.v (.one
 (.i (↑n : Int)))),(11,.v (.one x0_1)),(4,.v (.one x4)),(3,.v (.one x)),(2,.v (.one .nilsl))] S_1 [(30,[xL0_0,xL0_1,xL0_2,xL0_3,xL0_4])]=(true=true/\∃ Y R,hk.3 Y 26 [.one x4] [] S_1 [(30,[xL0_0,xL0_1,xL0_2,xL0_3,xL0_4])] R/\True/\((AL.clear S_1 Y xL0_0=true/\AL.clear S_1 Y xL0_1=true/\AL.clear S_1 Y xL0_2=true/\AL.clear S_1 Y xL0_3=true/\AL.clear S_1 Y
 xL0_4=true/\True)/\True)/\∀ (x : AL) (S1 : St),R (.one x) S1->true=true/\Q (.one x)
 S1)
 := by intros; kernel_rfl
theorem v21 : ∀ (hk : Hk) (plans : Nat->Plan) (x0_0 x0_1 x0_2 x0_3 x0_4 : AL) (S : St) (Q : AV->St->Prop),wFn cf21 hk Tryz.prog (tabY Tryz.prog) plans false 21 [.agg [x0_0,x0_1,x0_2,x0_3,x0_4]] S Q=(true=true/\∃ R,hk.1 51 [.agg [x0_0,x0_1,x0_2,x0_3,x0_4]] S [(30,[x0_0,x0_1,x0_2,x0_3,x0_4])] R/\∀ (x : AL) (S1 : St),R (.one x) S1->∃ R,hk.1 44 [.agg [x0_0,x0_1,x0_2,x0_3,x0_4]] S1
 [(30,[x0_0,x0_1,x0_2,x0_3,x0_4]),(24,[x])] R/\∀ (x_1 : AL) (S1 : St),R (.one x_1) S1->true=true/\∃ Y R,hk.3 Y 20 [.one x_1,.clo 52 [.ptr (S1.boxes.length + 1) 0]] [] S1 [(30,[x0_0,x0_1,x0_2,x0_3,x0_4]),(24,[x])] R/\True/\((AL.clear S1 Y x0_0=true/\AL.clear S1 Y x0_1=true/\AL.clear S1 Y x0_2=true/\AL.clear S1 Y x0_3=true/\AL.clear S1 Y x0_4=true/\True)/\(AL.clear S1 Y
 x=true/\True)/\True)/\∀ (x_2 : AL) (S1 : St),R (.one x_2) S1->true=true/\∃ Y R,hk.3 Y 26 [.one x_2] [] S1 [(30,[x0_0,x0_1,x0_2,x0_3,x0_4]),(24,[x])] R/\True/\((AL.clear S1 Y x0_0=true/\AL.clear S1 Y x0_1=true/\AL.clear S1 Y x0_2=true/\AL.clear S1 Y x0_3=true/\AL.clear S1 Y x0_4=true/\True)/\(AL.clear S1 Y x=true/\True)/\True)/\∀ (x : AL) (S1 : St),R (.one x) S1->true=true/\Q
 (.one x)
 S1)
 := by intros; kernel_rfl
theorem v6 : ∀ (hk : Hk) (plans : Nat->Plan) (x0_0 x0_1 x0_2 x0_3 x0_4 : AL) (S : St) (Q : AV->St->Prop),wFn cf6 hk Tryz.prog (tabY Tryz.prog) plans false 6 [.agg [x0_0,x0_1,x0_2,x0_3,x0_4]] S Q=(true=true/\∃ R,hk.1 17 [.agg [x0_0,x0_1,x0_2,x0_3,x0_4]] S [(30,[x0_0,x0_1,x0_2,x0_3,x0_4])] R/\∀ (x : AL) (S1 : St),R (.one x) S1->∃ n,x0_3.len?=some n/\hk.2 79 (codeOf Tryz.prog 6
 [1,1,1,0,1,0,0]) [.blk 0,.seq (codeOf Tryz.prog 6 [1,1,1,1])] (wEnd (tabY Tryz.prog) Tryz.f6 false S.boxes.length Q) [(18,.v (.one (.i 0))),(17,.v (.one (.i (↑n : Int)))),(16,.v (.one x0_3)),(15,.loc 0 3),(5,.v (.one (.sl (some (S1.born (0,9,1)).toks.length) 0 []))),(4,.v (.one (.sl (some S1.toks.length) 0 []))),(14,.v (.one (.sl (some (S1.born (0,9,1)).toks.length) 0
 []))),(13,.v (.one (.sl (some S1.toks.length) 0 []))),(3,.v (.one x)),(12,.v (.one x)),(11,.v (.agg [x0_0,x0_1,x0_2,x0_3,x0_4])),(2,.v (.one .nilsl)),(1,.loc 0 0),(0,.v (.agg [x0_0,x0_1,x0_2,x0_3,x0_4]))] ((S1.born (0,9,1)).born (0,9,1))
 [(30,[x0_0,x0_1,x0_2,x0_3,x0_4])])
 := by intros; kernel_rfl
theorem b6_0 : ∀ (hk : Hk) (plans : Nat->Plan) (x0_3 x : AL) (n : Nat) (n18 : Int) (x5 x4 xL0_0 xL0_1 xL0_2 xL0_3 xL0_4 : AL) (S : St) (K : QW),wCode cf6 hk Tryz.prog (tabY Tryz.prog) 79 plans 1000 (codeOf Tryz.prog 6 [1,1,1,0,1,0,0]) [] (fun e env S L => K e (restr [18,17,16,5,4,3,2,1] env) S L) [(18,.v (.one (.i n18))),(17,.v (.one (.i (↑n : Int)))),(16,.v (.one x0_3)),(5,.v
 (.one x5)),(4,.v (.one x4)),(3,.v (.one x)),(2,.v (.one .nilsl)),(1,.loc 0 0)] S [(30,[xL0_0,xL0_1,xL0_2,xL0_3,xL0_4])]=((decide (n18 < (↑n : Int))=true->∃ tok n_1 xs,x0_3=.sl tok n_1 xs/\0<=n18/\n18 < (↑n_1 : Int)/\true=true/\(∃ xs_1,likeCells [.i 0,.str k_,.i 0] xs_1=true/\List.take 3 (List.drop (n18.toNat * 3) xs)=xs_1)/\∀ (n_2 : Int) (s : ByteArray) (n_3 : Int),List.take 3
 (List.drop (n18.toNat * 3) xs)=[.i n_2,.str s,.i n_3]->∃ R,hk.1 18 [.agg [xL0_0,xL0_1,xL0_2,xL0_3,xL0_4],.one (.str s)] S [(30,[xL0_0,xL0_1,xL0_2,xL0_3,xL0_4]),(46,[.i n_2,.str s,.i n_3])] R/\∀ (s_1 s_2 s_3 : ByteArray) (b : Bool) (S1 : St),R (.tup [.agg [.str s_1,.str s_2,.str s_3],.one (.bool b)]) S1->((n_2 == 3)=true->(b=true->24=24/\∃ r S',dAppend2 (tabY Tryz.prog) 24 x4
 (.sl (some S1.toks.length) 1 [.str s]) (S1.born (1,9,1))=some (r,S')/\in64 (n18 + 1)/\K .normal [(18,.v (.one (.i (n18 + 1)))),(17,.v (.one (.i (↑n : Int)))),(16,.v (.one x0_3)),(5,.v (.one x5)),(4,.v (.one r)),(3,.v (.one x)),(2,.v (.one .nilsl)),(1,.loc 0 0)] S' [(30,[xL0_0,xL0_1,xL0_2,xL0_3,xL0_4]),(46,[.i n_2,.str s,.i n_3]),(48,[.str s_1,.str s_2,.str
 s_3])])/\(b=false->((n_2 == 1)=true->∃ R,hk.1 19 [.one x,.one (.str s)] S1 [(30,[xL0_0,xL0_1,xL0_2,xL0_3,xL0_4]),(46,[.i n_2,.str s,.i n_3]),(48,[.str s_1,.str s_2,.str s_3])] R/\∀ (b : Bool) (S1 : St),R (.one (.bool b)) S1->((!b)=true->24=24/\∃ r S',dAppend2 (tabY Tryz.prog) 24 x5 (.sl (some S1.toks.length) 1 [.str s]) (S1.born (1,9,1))=some (r,S')/\in64 (n18 + 1)/\K .normal
 [(18,.v (.one (.i (n18 + 1)))),(17,.v (.one (.i (↑n : Int)))),(16,.v (.one x0_3)),(5,.v (.one r)),(4,.v (.one x4)),(3,.v (.one x)),(2,.v (.one .nilsl)),(1,.loc 0 0)] S' [(30,[xL0_0,xL0_1,xL0_2,xL0_3,xL0_4]),(46,[.i n_2,.str s,.i n_3]),(48,[.str s_1,.str s_2,.str s_3])])/\((!b)=false->in64 (n18 + 1)/\K .normal [(18,.v (.one (.i (n18 + 1)))),(17,.v (.one (.i (↑n : Int)))),(16,.v
 (.one x0_3)),(5,.v (.one x5)),(4,.v (.one x4)),(3,.v (.one x)),(2,.v (.one .nilsl)),(1,.loc 0 0)] S1 [(30,[xL0_0,xL0_1,xL0_2,xL0_3,xL0_4]),(46,[.i n_2,.str s,.i n_3]),(48,[.str s_1,.str s_2,.str s_3])]))/\((n_2 == 1)=false->((n_2 == 2)=true->∃ R,hk.1 19 [.one x,.one (.str s)] S1 [(30,[xL0_0,xL0_1,xL0_2,xL0_3,xL0_4]),(46,[.i n_2,.str s,.i n_3]),(48,[.str s_1,.str s_2,.str s_3])]
 R/\∀ (b : Bool) (S1 : St),R (.one (.bool b)) S1->((!b)=true->24=24/\∃ r S',dAppend2 (tabY Tryz.prog) 24 x5 (.sl (some S1.toks.length) 1 [.str s]) (S1.born (1,9,1))=some (r,S')/\in64 (n18 + 1)/\K .normal [(18,.v (.one (.i (n18 + 1)))),(17,.v (.one (.i (↑n : Int)))),(16,.v (.one x0_3)),(5,.v (.one r)),(4,.v (.one x4)),(3,.v (.one x)),(2,.v (.one .nilsl)),(1,.loc 0 0)] S'
 [(30,[xL0_0,xL0_1,xL0_2,xL0_3,xL0_4]),(46,[.i n_2,.str s,.i n_3]),(48,[.str s_1,.str s_2,.str s_3])])/\((!b)=false->in64 (n18 + 1)/\K .normal [(18,.v (.one (.i (n18 + 1)))),(17,.v (.one (.i (↑n : Int)))),(16,.v (.one x0_3)),(5,.v (.one x5)),(4,.v (.one x4)),(3,.v (.one x)),(2,.v (.one .nilsl)),(1,.loc 0 0)] S1 [(30,[xL0_0,xL0_1,xL0_2,xL0_3,xL0_4]),(46,[.i n_2,.str s,.i
 n_3]),(48,[.str s_1,.str s_2,.str s_3])]))/\((n_2 == 2)=false->in64 (n18 + 1)/\K .normal [(18,.v (.one (.i (n18 + 1)))),(17,.v (.one (.i (↑n : Int)))),(16,.v (.one x0_3)),(5,.v (.one x5)),(4,.v (.one x4)),(3,.v (.one x)),(2,.v (.one .nilsl)),(1,.loc 0 0)] S1 [(30,[xL0_0,xL0_1,xL0_2,xL0_3,xL0_4]),(46,[.i n_2,.str s,.i n_3]),(48,[.str s_1,.str s_2,.str s_3])]))))/\((n_2 ==
 3)=false->((n_2 == 1)=true->∃ R,hk.1 19 [.one x,.one (.str s)] S1 [(30,[xL0_0,xL0_1,xL0_2,xL0_3,xL0_4]),(46,[.i n_2,.str s,.i n_3]),(48,[.str s_1,.str s_2,.str s_3])] R/\∀ (b : Bool) (S1 : St),R (.one (.bool b)) S1->((!b)=true->24=24/\∃ r S',dAppend2 (tabY Tryz.prog) 24 x5 (.sl (some S1.toks.length) 1 [.str s]) (S1.born (1,9,1))=some (r,S')/\in64 (n18 + 1)/\K .normal [(18,.v
 (.one (.i (n18 + 1)))),(17,.v (.one (.i (↑n : Int)))),(16,.v (.one x0_3)),(5,.v (.one r)),(4,.v (.one x4)),(3,.v (.one x)),(2,.v (.one .nilsl)),(1,.loc 0 0)] S' [(30,[xL0_0,xL0_1,xL0_2,xL0_3,xL0_4]),(46,[.i n_2,.str s,.i n_3]),(48,[.str s_1,.str s_2,.str s_3])])/\((!b)=false->in64 (n18 + 1)/\K .normal [(18,.v (.one (.i (n18 + 1)))),(17,.v (.one (.i (↑n : Int)))),(16,.v (.one
 x0_3)),(5,.v (.one x5)),(4,.v (.one x4)),(3,.v (.one x)),(2,.v (.one .nilsl)),(1,.loc 0 0)] S1 [(30,[xL0_0,xL0_1,xL0_2,xL0_3,xL0_4]),(46,[.i n_2,.str s,.i n_3]),(48,[.str s_1,.str s_2,.str s_3])]))/\((n_2 == 1)=false->((n_2 == 2)=true->∃ R,hk.1 19 [.one x,.one (.str s)] S1 [(30,[xL0_0,xL0_1,xL0_2,xL0_3,xL0_4]),(46,[.i n_2,.str s,.i n_3]),(48,[.str s_1,.str s_2,.str s_3])] R/\∀
 (b : Bool) (S1 : St),R (.one (.bool b)) S1->((!b)=true->24=24/\∃ r S',dAppend2 (tabY Tryz.prog) 24 x5 (.sl (some S1.toks.length) 1 [.str s]) (S1.born (1,9,1))=some (r,S')/\in64 (n18 + 1)/\K .normal [(18,.v (.one (.i (n18 + 1)))),(17,.v (.one (.i (↑n : Int)))),(16,.v (.one x0_3)),(5,.v (.one r)),(4,.v (.one x4)),(3,.v (.one x)),(2,.v (.one .nilsl)),(1,.loc 0 0)] S'
 [(30,[xL0_0,xL0_1,xL0_2,xL0_3,xL0_4]),(46,[.i n_2,.str s,.i n_3]),(48,[.str s_1,.str s_2,.str s_3])])/\((!b)=false->in64 (n18 + 1)/\K .normal [(18,.v (.one (.i (n18 + 1)))),(17,.v (.one (.i (↑n : Int)))),(16,.v (.one x0_3)),(5,.v (.one x5)),(4,.v (.one x4)),(3,.v (.one x)),(2,.v (.one .nilsl)),(1,.loc 0 0)] S1 [(30,[xL0_0,xL0_1,xL0_2,xL0_3,xL0_4]),(46,[.i n_2,.str s,.i
 n_3]),(48,[.str s_1,.str s_2,.str s_3])]))/\((n_2 == 2)=false->in64 (n18 + 1)/\K .normal [(18,.v (.one (.i (n18 + 1)))),(17,.v (.one (.i (↑n : Int)))),(16,.v (.one x0_3)),(5,.v (.one x5)),(4,.v (.one x4)),(3,.v (.one x)),(2,.v (.one .nilsl)),(1,.loc 0 0)] S1 [(30,[xL0_0,xL0_1,xL0_2,xL0_3,xL0_4]),(46,[.i n_2,.str s,.i n_3]),(48,[.str s_1,.str s_2,.str s_3])]))))/\(decide (n18 <
 (↑n : Int))=false->K (.exit 0) [(18,.v (.one (.i n18))),(17,.v (.one (.i (↑n : Int)))),(16,.v (.one x0_3)),(5,.v (.one x5)),(4,.v (.one x4)),(3,.v (.one x)),(2,.v (.one .nilsl)),(1,.loc 0 0)] S
 [(30,[xL0_0,xL0_1,xL0_2,xL0_3,xL0_4])]))
 := by intros; kernel_rfl
theorem x6_0 : ∀ (hk : Hk) (plans : Nat->Plan) (x0_3 : AL) (S : St) (Q : AV->St->Prop) (x : AL) (n : Nat) (n18 : Int) (x5 x4 xL0_0 xL0_1 xL0_2 xL0_3 xL0_4 : AL) (S_1 : St),wCode.wEx cf6 hk Tryz.prog (tabY Tryz.prog) 79 plans 1000 (.exit 0) [.blk 0,.seq (codeOf Tryz.prog 6 [1,1,1,1])] (wEnd (tabY Tryz.prog) Tryz.f6 false S.boxes.length Q) [(18,.v (.one (.i n18))),(17,.v (.one
 (.i (↑n : Int)))),(16,.v (.one x0_3)),(5,.v (.one x5)),(4,.v (.one x4)),(3,.v (.one x)),(2,.v (.one .nilsl)),(1,.loc 0 0)] S_1 [(30,[xL0_0,xL0_1,xL0_2,xL0_3,xL0_4])]=∃ R,hk.1 21 [.agg [xL0_0,xL0_1,xL0_2,xL0_3,xL0_4]] S_1 [(30,[xL0_0,xL0_1,xL0_2,xL0_3,xL0_4])] R/\∀ (x : AL) (S1 : St),R (.one x) S1->true=true/\∃ Y R,hk.3 Y 20 [.one x,.clo 22 []] [] S1
 [(30,[xL0_0,xL0_1,xL0_2,xL0_3,xL0_4])] R/\(AL.clear S1 Y x4=true/\AL.clear S1 Y x5=true/\True)/\((AL.clear S1 Y xL0_0=true/\AL.clear S1 Y xL0_1=true/\AL.clear S1 Y xL0_2=true/\AL.clear S1 Y xL0_3=true/\AL.clear S1 Y xL0_4=true/\True)/\True)/\∀ (x : AL) (S1 : St),R (.one x) S1->∃ R,hk.1 25 [.agg [xL0_0,xL0_1,xL0_2,xL0_3,xL0_4]] S1 [(30,[xL0_0,xL0_1,xL0_2,xL0_3,xL0_4])] R/\∀ (x_1
 : AL) (S1 : St),R (.one x_1) S1->∃ R,hk.1 24 [.one (.i 1),.one x_1] S1 [(30,[xL0_0,xL0_1,xL0_2,xL0_3,xL0_4])] R/\∀ (x_2 : AL) (S1 : St),R (.one x_2) S1->∃ R,hk.1 24 [.one (.i 2),.one x] S1 [(30,[xL0_0,xL0_1,xL0_2,xL0_3,xL0_4])] R/\∀ (x : AL) (S1 : St),R (.one x) S1->true=true/\∃ Y R,hk.3 Y 26 [.one x4] [] S1 [(30,[xL0_0,xL0_1,xL0_2,xL0_3,xL0_4])] R/\(AL.clear S1 Y
 x_2=true/\AL.clear S1 Y x=true/\AL.clear S1 Y x5=true/\True)/\((AL.clear S1 Y xL0_0=true/\AL.clear S1 Y xL0_1=true/\AL.clear S1 Y xL0_2=true/\AL.clear S1 Y xL0_3=true/\AL.clear S1 Y xL0_4=true/\True)/\True)/\∀ (x_3 : AL) (S1 : St),R (.one x_3) S1->∃ R,hk.1 24 [.one (.i 3),.one x_3] S1 [(30,[xL0_0,xL0_1,xL0_2,xL0_3,xL0_4])] R/\∀ (x_4 : AL) (S1 : St),R (.one x_4) S1->true=true/\∃
 Y R,hk.3 Y 26 [.one x5] [] S1 [(30,[xL0_0,xL0_1,xL0_2,xL0_3,xL0_4])] R/\(AL.clear S1 Y x_2=true/\AL.clear S1 Y x=true/\AL.clear S1 Y x_4=true/\True)/\((AL.clear S1 Y xL0_0=true/\AL.clear S1 Y xL0_1=true/\AL.clear S1 Y xL0_2=true/\AL.clear S1 Y xL0_3=true/\AL.clear S1 Y xL0_4=true/\True)/\True)/\∀ (x_5 : AL) (S1 : St),R (.one x_5) S1->∃ R,hk.1 24 [.one (.i 4),.one x_5] S1
 [(30,[xL0_0,xL0_1,xL0_2,xL0_3,xL0_4])] R/\∀ (x_6 : AL) (S1 : St),R (.one x_6) S1->∃ R,hk.1 23 [.one (.sl (some S1.toks.length) 4 [x_2,x,x_4,x_6])] (S1.born (4,32,1)) [(30,[xL0_0,xL0_1,xL0_2,xL0_3,xL0_4])] R/\∀ (x : AL) (S1 : St),R (.one x) S1->true=true/\Q (.one x)
 S1
 := by intros; kernel_rfl
theorem v7 : ∀ (hk : Hk) (plans : Nat->Plan) (x0_0 x0_1 x0_2 x0_3 x0_4 : AL) (S : St) (Q : AV->St->Prop),wFn cf7 hk Tryz.prog (tabY Tryz.prog) plans false 7 [.agg [x0_0,x0_1,x0_2,x0_3,x0_4]] S Q=(true=true/\∃ R,hk.1 27 [.agg [x0_0,x0_1,x0_2,x0_3,x0_4]] S [(30,[x0_0,x0_1,x0_2,x0_3,x0_4]),(30,n5)] R/\∀ (x x_1 x_2 x_3 x_4 : AL) (S1 : St),R (.agg [x,x_1,x_2,x_3,x_4]) S1->∃ R,hk.1
 25 [.agg [x0_0,x0_1,x0_2,x0_3,x0_4]] S1 [(30,[x0_0,x0_1,x0_2,x0_3,x0_4]),(30,n5),(30,[x,x_1,x_2,x_3,x_4])] R/\∀ (x_5 : AL) (S1 : St),R (.one x_5) S1->true=true/\∃ Y R,hk.3 Y 28 [.one x_1,.clo 29 [.ptr (S1.boxes.length + 3) 0]] [(2,1)] S1 [(30,[x0_0,x0_1,x0_2,x0_3,x0_4]),(30,n5),(30,[x,x_1,x_2,x_3,x_4]),(24,[x_5])] R/\True/\((AL.clear S1 Y x0_0=true/\AL.clear S1 Y
 x0_1=true/\AL.clear S1 Y x0_2=true/\AL.clear S1 Y x0_3=true/\AL.clear S1 Y x0_4=true/\True)/\(AL.clear S1 Y .nilsl=true/\AL.clear S1 Y .nilsl=true/\AL.clear S1 Y .nilsl=true/\AL.clear S1 Y .nilsl=true/\AL.clear S1 Y .nilsl=true/\True)/\(AL.clear S1 Y x=true/\AL.clear S1 Y .undef=true/\AL.clear S1 Y x_2=true/\AL.clear S1 Y x_3=true/\AL.clear S1 Y x_4=true/\True)/\(AL.clear S1 Y
 x_5=true/\True)/\True)/\∀ (x_6 : AL) (S1 : St),R (.one x_6) S1->true=true/\Q (.agg [x,x_6,x_2,x_3,x_4])
 S1)
 := by intros; kernel_rfl
theorem v17 : ∀ (hk : Hk) (x0_0 x0_1 x0_2 x0_3 x0_4 : AL) (S : St) (Q : AV->St->Prop),wFn cf17 hk Tryz.prog (tabY Tryz.prog) pl17 false 17 [.agg [x0_0,x0_1,x0_2,x0_3,x0_4]] S Q=(true=true/\true=true/\((∃ R,hk.1 44 [.agg [x0_0,x0_1,x0_2,x0_3,x0_4]] S [(30,[x0_0,x0_1,x0_2,x0_3,x0_4])] R/\∀ (x : AL) (S1 : St),R (.one x) S1->((∃ R,hk.1 45 [.agg [x0_0,x0_1,x0_2,x0_3,x0_4]] S1
 [(30,[x0_0,x0_1,x0_2,x0_3,x0_4])] R/\∀ (x_1 : AL) (S1 : St),R (.one x_1) S1->((∃ R,hk.1 46 [.agg [x0_0,x0_1,x0_2,x0_3,x0_4]] S1 [(30,[x0_0,x0_1,x0_2,x0_3,x0_4])] R/\∀ (x_2 : AL) (S1 : St),R (.one x_2) S1->((∃ R,hk.1 43 [.one (.sl (some S1.toks.length) 3 [x,x_1,x_2])] (S1.born (3,24,1)) [(30,[x0_0,x0_1,x0_2,x0_3,x0_4])] R/\∀ (x : AL) (S1 : St),R (.one x) S1->(true=true/\∃ Y
 R,hk.3 Y 26 [.one x] [] S1 [(30,[x0_0,x0_1,x0_2,x0_3,x0_4])] R/\True/\((AL.clear S1 Y x0_0=true/\AL.clear S1 Y x0_1=true/\AL.clear S1 Y x0_2=true/\AL.clear S1 Y x0_3=true/\AL.clear S1 Y x0_4=true/\True)/\True)/\∀ (x : AL) (S1 : St),R (.one x) S1->true=true/\Q (.one x) S1)/\True)/\True)/\True)/\True)/\True)/\((∃ R,hk.1 45 [.agg [x0_0,x0_1,x0_2,x0_3,x0_4]] S1
 [(30,[x0_0,x0_1,x0_2,x0_3,x0_4])] R/\∀ (x_1 : AL) (S1 : St),R (.one x_1) S1->(∃ R,hk.1 46 [.agg [x0_0,x0_1,x0_2,x0_3,x0_4]] S1 [(30,[x0_0,x0_1,x0_2,x0_3,x0_4])] R/\∀ (x_2 : AL) (S1 : St),R (.one x_2) S1->((∃ R,hk.1 43 [.one (.sl (some S1.toks.length) 3 [x,x_1,x_2])] (S1.born (3,24,1)) [(30,[x0_0,x0_1,x0_2,x0_3,x0_4])] R/\∀ (x : AL) (S1 : St),R (.one x) S1->(true=true/\∃ Y
 R,hk.3 Y 26 [.one x] [] S1 [(30,[x0_0,x0_1,x0_2,x0_3,x0_4])] R/\True/\((AL.clear S1 Y x0_0=true/\AL.clear S1 Y x0_1=true/\AL.clear S1 Y x0_2=true/\AL.clear S1 Y x0_3=true/\AL.clear S1 Y x0_4=true/\True)/\True)/\∀ (x : AL) (S1 : St),R (.one x) S1->true=true/\Q (.one x) S1)/\True)/\True)/\True)/\True)/\True)/\True)/\(((∃ R,hk.1 45 [.agg [x0_0,x0_1,x0_2,x0_3,x0_4]] S1
 [(30,[x0_0,x0_1,x0_2,x0_3,x0_4])] R/\∀ (x_1 : AL) (S1 : St),R (.one x_1) S1->(∃ R,hk.1 46 [.agg [x0_0,x0_1,x0_2,x0_3,x0_4]] S1 [(30,[x0_0,x0_1,x0_2,x0_3,x0_4])] R/\∀ (x_2 : AL) (S1 : St),R (.one x_2) S1->((∃ R,hk.1 43 [.one (.sl (some S1.toks.length) 3 [x,x_1,x_2])] (S1.born (3,24,1)) [(30,[x0_0,x0_1,x0_2,x0_3,x0_4])] R/\∀ (x : AL) (S1 : St),R (.one x) S1->(true=true/\∃ Y
 R,hk.3 Y 26 [.one x] [] S1 [(30,[x0_0,x0_1,x0_2,x0_3,x0_4])] R/\True/\((AL.clear S1 Y x0_0=true/\AL.clear S1 Y x0_1=true/\AL.clear S1 Y x0_2=true/\AL.clear S1 Y x0_3=true/\AL.clear S1 Y x0_4=true/\True)/\True)/\∀ (x : AL) (S1 : St),R (.one x) S1->true=true/\Q (.one x) S1)/\True)/\True)/\True)/\True)/\True)/\True)/\True)/\((∃ R,hk.1 44 [.agg [x0_0,x0_1,x0_2,x0_3,x0_4]] S
 [(30,[x0_0,x0_1,x0_2,x0_3,x0_4])] R/\∀ (x : AL) (S1 : St),R (.one x) S1->(∃ R,hk.1 45 [.agg [x0_0,x0_1,x0_2,x0_3,x0_4]] S1 [(30,[x0_0,x0_1,x0_2,x0_3,x0_4])] R/\∀ (x_1 : AL) (S1 : St),R (.one x_1) S1->((∃ R,hk.1 46 [.agg [x0_0,x0_1,x0_2,x0_3,x0_4]] S1 [(30,[x0_0,x0_1,x0_2,x0_3,x0_4])] R/\∀ (x_2 : AL) (S1 : St),R (.one x_2) S1->((∃ R,hk.1 43 [.one (.sl (some S1.toks.length) 3
 [x,x_1,x_2])] (S1.born (3,24,1)) [(30,[x0_0,x0_1,x0_2,x0_3,x0_4])] R/\∀ (x : AL) (S1 : St),R (.one x) S1->(true=true/\∃ Y R,hk.3 Y 26 [.one x] [] S1 [(30,[x0_0,x0_1,x0_2,x0_3,x0_4])] R/\True/\((AL.clear S1 Y x0_0=true/\AL.clear S1 Y x0_1=true/\AL.clear S1 Y x0_2=true/\AL.clear S1 Y x0_3=true/\AL.clear S1 Y x0_4=true/\True)/\True)/\∀ (x : AL) (S1 : St),R (.one x)
 S1->true=true/\Q (.one x) S1)/\True)/\True)/\True)/\True)/\True)/\((∃ R,hk.1 45 [.agg [x0_0,x0_1,x0_2,x0_3,x0_4]] S1 [(30,[x0_0,x0_1,x0_2,x0_3,x0_4])] R/\∀ (x_1 : AL) (S1 : St),R (.one x_1) S1->(∃ R,hk.1 46 [.agg [x0_0,x0_1,x0_2,x0_3,x0_4]] S1 [(30,[x0_0,x0_1,x0_2,x0_3,x0_4])] R/\∀ (x_2 : AL) (S1 : St),R (.one x_2) S1->((∃ R,hk.1 43 [.one (.sl (some S1.toks.length) 3
 [x,x_1,x_2])] (S1.born (3,24,1)) [(30,[x0_0,x0_1,x0_2,x0_3,x0_4])] R/\∀ (x : AL) (S1 : St),R (.one x) S1->(true=true/\∃ Y R,hk.3 Y 26 [.one x] [] S1 [(30,[x0_0,x0_1,x0_2,x0_3,x0_4])] R/\True/\((AL.clear S1 Y x0_0=true/\AL.clear S1 Y x0_1=true/\AL.clear S1 Y x0_2=true/\AL.clear S1 Y x0_3=true/\AL.clear S1 Y x0_4=true/\True)/\True)/\∀ (x : AL) (S1 : St),R (.one x)
 S1->true=true/\Q (.one x) S1)/\True)/\True)/\True)/\True)/\True)/\True)/\((∃ R,hk.1 44 [.agg [x0_0,x0_1,x0_2,x0_3,x0_4]] S [(30,[x0_0,x0_1,x0_2,x0_3,x0_4])] R/\∀ (x : AL) (S1 : St),R (.one x) S1->(∃ R,hk.1 45 [.agg [x0_0,x0_1,x0_2,x0_3,x0_4]] S1 [(30,[x0_0,x0_1,x0_2,x0_3,x0_4])] R/\∀ (x_1 : AL) (S1 : St),R (.one x_1) S1->(∃ R,hk.1 46 [.agg [x0_0,x0_1,x0_2,x0_3,x0_4]] S1
 [(30,[x0_0,x0_1,x0_2,x0_3,x0_4])] R/\∀ (x_2 : AL) (S1 : St),R (.one x_2) S1->((∃ R,hk.1 43 [.one (.sl (some S1.toks.length) 3 [x,x_1,x_2])] (S1.born (3,24,1)) [(30,[x0_0,x0_1,x0_2,x0_3,x0_4])] R/\∀ (x : AL) (S1 : St),R (.one x) S1->(true=true/\∃ Y R,hk.3 Y 26 [.one x] [] S1 [(30,[x0_0,x0_1,x0_2,x0_3,x0_4])] R/\True/\((AL.clear S1 Y x0_0=true/\AL.clear S1 Y x0_1=true/\AL.clear
 S1 Y x0_2=true/\AL.clear S1 Y x0_3=true/\AL.clear S1 Y x0_4=true/\True)/\True)/\∀ (x : AL) (S1 : St),R (.one x) S1->true=true/\Q (.one x) S1)/\True)/\True)/\True)/\True)/\True)/\True)/\True)/\((∃ R,hk.1 44 [.agg [x0_0,x0_1,x0_2,x0_3,x0_4]] S [(30,[x0_0,x0_1,x0_2,x0_3,x0_4])] R/\∀ (x : AL) (S1 : St),R (.one x) S1->((∃ R,hk.1 45 [.agg [x0_0,x0_1,x0_2,x0_3,x0_4]] S1
 [(30,[x0_0,x0_1,x0_2,x0_3,x0_4])] R/\∀ (x_1 : AL) (S1 : St),R (.one x_1) S1->(∃ R,hk.1 46 [.agg [x0_0,x0_1,x0_2,x0_3,x0_4]] S1 [(30,[x0_0,x0_1,x0_2,x0_3,x0_4])] R/\∀ (x_2 : AL) (S1 : St),R (.one x_2) S1->((∃ R,hk.1 43 [.one (.sl (some S1.toks.length) 3 [x,x_1,x_2])] (S1.born (3,24,1)) [(30,[x0_0,x0_1,x0_2,x0_3,x0_4])] R/\∀ (x : AL) (S1 : St),R (.one x) S1->(true=true/\∃ Y
 R,hk.3 Y 26 [.one x] [] S1 [(30,[x0_0,x0_1,x0_2,x0_3,x0_4])] R/\True/\((AL.clear S1 Y x0_0=true/\AL.clear S1 Y x0_1=true/\AL.clear S1 Y x0_2=true/\AL.clear S1 Y x0_3=true/\AL.clear S1 Y x0_4=true/\True)/\True)/\∀ (x : AL) (S1 : St),R (.one x) S1->true=true/\Q (.one x) S1)/\True)/\True)/\True)/\True)/\True)/\True)/\((∃ R,hk.1 44 [.agg [x0_0,x0_1,x0_2,x0_3,x0_4]] S
 [(30,[x0_0,x0_1,x0_2,x0_3,x0_4])] R/\∀ (x : AL) (S1 : St),R (.one x) S1->(∃ R,hk.1 45 [.agg [x0_0,x0_1,x0_2,x0_3,x0_4]] S1 [(30,[x0_0,x0_1,x0_2,x0_3,x0_4])] R/\∀ (x_1 : AL) (S1 : St),R (.one x_1) S1->(∃ R,hk.1 46 [.agg [x0_0,x0_1,x0_2,x0_3,x0_4]] S1 [(30,[x0_0,x0_1,x0_2,x0_3,x0_4])] R/\∀ (x_2 : AL) (S1 : St),R (.one x_2) S1->((∃ R,hk.1 43 [.one (.sl (some S1.toks.length) 3
 [x,x_1,x_2])] (S1.born (3,24,1)) [(30,[x0_0,x0_1,x0_2,x0_3,x0_4])] R/\∀ (x : AL) (S1 : St),R (.one x) S1->(true=true/\∃ Y R,hk.3 Y 26 [.one x] [] S1 [(30,[x0_0,x0_1,x0_2,x0_3,x0_4])] R/\True/\((AL.clear S1 Y x0_0=true/\AL.clear S1 Y x0_1=true/\AL.clear S1 Y x0_2=true/\AL.clear S1 Y x0_3=true/\AL.clear S1 Y x0_4=true/\True)/\True)/\∀ (x : AL) (S1 : St),R (.one x)
 S1->true=true/\Q (.one x) S1)/\True)/\True)/\True)/\True)/\True)/\True)/\True)/\True)/\(((∃ R,hk.1 44 [.agg [x0_0,x0_1,x0_2,x0_3,x0_4]] S [(30,[x0_0,x0_1,x0_2,x0_3,x0_4])] R/\∀ (x : AL) (S1 : St),R (.one x) S1->(∃ R,hk.1 45 [.agg [x0_0,x0_1,x0_2,x0_3,x0_4]] S1 [(30,[x0_0,x0_1,x0_2,x0_3,x0_4])] R/\∀ (x_1 : AL) (S1 : St),R (.one x_1) S1->((∃ R,hk.1 46 [.agg
 [x0_0,x0_1,x0_2,x0_3,x0_4]] S1 [(30,[x0_0,x0_1,x0_2,x0_3,x0_4])] R/\∀ (x_2 : AL) (S1 : St),R (.one x_2) S1->((∃ R,hk.1 43 [.one (.sl (some S1.toks.length) 3 [x,x_1,x_2])] (S1.born (3,24,1)) [(30,[x0_0,x0_1,x0_2,x0_3,x0_4])] R/\∀ (x : AL) (S1 : St),R (.one x) S1->(true=true/\∃ Y R,hk.3 Y 26 [.one x] [] S1 [(30,[x0_0,x0_1,x0_2,x0_3,x0_4])] R/\True/\((AL.clear S1 Y
 x0_0=true/\AL.clear S1 Y x0_1=true/\AL.clear S1 Y x0_2=true/\AL.clear S1 Y x0_3=true/\AL.clear S1 Y x0_4=true/\True)/\True)/\∀ (x : AL) (S1 : St),R (.one x) S1->true=true/\Q (.one x) S1)/\True)/\True)/\True)/\True)/\True)/\((∃ R,hk.1 45 [.agg [x0_0,x0_1,x0_2,x0_3,x0_4]] S1 [(30,[x0_0,x0_1,x0_2,x0_3,x0_4])] R/\∀ (x_1 : AL) (S1 : St),R (.one x_1) S1->(∃ R,hk.1 46 [.agg
 [x0_0,x0_1,x0_2,x0_3,x0_4]] S1 [(30,[x0_0,x0_1,x0_2,x0_3,x0_4])] R/\∀ (x_2 : AL) (S1 : St),R (.one x_2) S1->((∃ R,hk.1 43 [.one (.sl (some S1.toks.length) 3 [x,x_1,x_2])] (S1.born (3,24,1)) [(30,[x0_0,x0_1,x0_2,x0_3,x0_4])] R/\∀ (x : AL) (S1 : St),R (.one x) S1->(true=true/\∃ Y R,hk.3 Y 26 [.one x] [] S1 [(30,[x0_0,x0_1,x0_2,x0_3,x0_4])] R/\True/\((AL.clear S1 Y
 x0_0=true/\AL.clear S1 Y x0_1=true/\AL.clear S1 Y x0_2=true/\AL.clear S1 Y x0_3=true/\AL.clear S1 Y x0_4=true/\True)/\True)/\∀ (x : AL) (S1 : St),R (.one x) S1->true=true/\Q (.one x) S1)/\True)/\True)/\True)/\True)/\True)/\True)/\((∃ R,hk.1 44 [.agg [x0_0,x0_1,x0_2,x0_3,x0_4]] S [(30,[x0_0,x0_1,x0_2,x0_3,x0_4])] R/\∀ (x : AL) (S1 : St),R (.one x) S1->(∃ R,hk.1 45 [.agg
 [x0_0,x0_1,x0_2,x0_3,x0_4]] S1 [(30,[x0_0,x0_1,x0_2,x0_3,x0_4])] R/\∀ (x_1 : AL) (S1 : St),R (.one x_1) S1->(∃ R,hk.1 46 [.agg [x0_0,x0_1,x0_2,x0_3,x0_4]] S1 [(30,[x0_0,x0_1,x0_2,x0_3,x0_4])] R/\∀ (x_2 : AL) (S1 : St),R (.one x_2) S1->((∃ R,hk.1 43 [.one (.sl (some S1.toks.length) 3 [x,x_1,x_2])] (S1.born (3,24,1)) [(30,[x0_0,x0_1,x0_2,x0_3,x0_4])] R/\∀ (x : AL) (S1 : St),R
 (.one x) S1->(true=true/\∃ Y R,hk.3 Y 26 [.one x] [] S1 [(30,[x0_0,x0_1,x0_2,x0_3,x0_4])] R/\True/\((AL.clear S1 Y x0_0=true/\AL.clear S1 Y x0_1=true/\AL.clear S1 Y x0_2=true/\AL.clear S1 Y x0_3=true/\AL.clear S1 Y x0_4=true/\True)/\True)/\∀ (x : AL) (S1 : St),R (.one x) S1->true=true/\Q (.one x) S1)/\True)/\True)/\True)/\True)/\True)/\True)/\True)/\(((∃ R,hk.1 44 [.agg
 [x0_0,x0_1,x0_2,x0_3,x0_4]] S [(30,[x0_0,x0_1,x0_2,x0_3,x0_4])] R/\∀ (x : AL) (S1 : St),R (.one x) S1->(∃ R,hk.1 45 [.agg [x0_0,x0_1,x0_2,x0_3,x0_4]] S1 [(30,[x0_0,x0_1,x0_2,x0_3,x0_4])] R/\∀ (x_1 : AL) (S1 : St),R (.one x_1) S1->(∃ R,hk.1 46 [.agg [x0_0,x0_1,x0_2,x0_3,x0_4]] S1 [(30,[x0_0,x0_1,x0_2,x0_3,x0_4])] R/\∀ (x_2 : AL) (S1 : St),R (.one x_2) S1->((∃ R,hk.1 43 [.one
 (.sl (some S1.toks.length) 3 [x,x_1,x_2])] (S1.born (3,24,1)) [(30,[x0_0,x0_1,x0_2,x0_3,x0_4])] R/\∀ (x : AL) (S1 : St),R (.one x) S1->(true=true/\∃ Y R,hk.3 Y 26 [.one x] [] S1 [(30,[x0_0,x0_1,x0_2,x0_3,x0_4])] R/\True/\((AL.clear S1 Y x0_0=true/\AL.clear S1 Y x0_1=true/\AL.clear S1 Y x0_2=true/\AL.clear S1 Y x0_3=true/\AL.clear S1 Y x0_4=true/\True)/\True)/\∀ (x : AL) (S1 :
 St),R (.one x) S1->true=true/\Q (.one x) S1)/\True)/\True)/\True)/\True)/\True)/\True)/\True)/\True)/\(((∃ R,hk.1 44 [.agg [x0_0,x0_1,x0_2,x0_3,x0_4]] S [(30,[x0_0,x0_1,x0_2,x0_3,x0_4])] R/\∀ (x : AL) (S1 : St),R (.one x) S1->((∃ R,hk.1 45 [.agg [x0_0,x0_1,x0_2,x0_3,x0_4]] S1 [(30,[x0_0,x0_1,x0_2,x0_3,x0_4])] R/\∀ (x_1 : AL) (S1 : St),R (.one x_1) S1->(∃ R,hk.1 46 [.agg
 [x0_0,x0_1,x0_2,x0_3,x0_4]] S1 [(30,[x0_0,x0_1,x0_2,x0_3,x0_4])] R/\∀ (x_2 : AL) (S1 : St),R (.one x_2) S1->((∃ R,hk.1 43 [.one (.sl (some S1.toks.length) 3 [x,x_1,x_2])] (S1.born (3,24,1)) [(30,[x0_0,x0_1,x0_2,x0_3,x0_4])] R/\∀ (x : AL) (S1 : St),R (.one x) S1->(true=true/\∃ Y R,hk.3 Y 26 [.one x] [] S1 [(30,[x0_0,x0_1,x0_2,x0_3,x0_4])] R/\True/\((AL.clear S1 Y
 x0_0=true/\AL.clear S1 Y x0_1=true/\AL.clear S1 Y x0_2=true/\AL.clear S1 Y x0_3=true/\AL.clear S1 Y x0_4=true/\True)/\True)/\∀ (x : AL) (S1 : St),R (.one x) S1->true=true/\Q (.one x) S1)/\True)/\True)/\True)/\True)/\True)/\True)/\((∃ R,hk.1 44 [.agg [x0_0,x0_1,x0_2,x0_3,x0_4]] S [(30,[x0_0,x0_1,x0_2,x0_3,x0_4])] R/\∀ (x : AL) (S1 : St),R (.one x) S1->(∃ R,hk.1 45 [.agg
 [x0_0,x0_1,x0_2,x0_3,x0_4]] S1 [(30,[x0_0,x0_1,x0_2,x0_3,x0_4])] R/\∀ (x_1 : AL) (S1 : St),R (.one x_1) S1->(∃ R,hk.1 46 [.agg [x0_0,x0_1,x0_2,x0_3,x0_4]] S1 [(30,[x0_0,x0_1,x0_2,x0_3,x0_4])] R/\∀ (x_2 : AL) (S1 : St),R (.one x_2) S1->((∃ R,hk.1 43 [.one (.sl (some S1.toks.length) 3 [x,x_1,x_2])] (S1.born (3,24,1)) [(30,[x0_0,x0_1,x0_2,x0_3,x0_4])] R/\∀ (x : AL) (S1 : St),R
 (.one x) S1->(true=true/\∃ Y R,hk.3 Y 26 [.one x] [] S1 [(30,[x0_0,x0_1,x0_2,x0_3,x0_4])] R/\True/\((AL.clear S1 Y x0_0=true/\AL.clear S1 Y x0_1=true/\AL.clear S1 Y x0_2=true/\AL.clear S1 Y x0_3=true/\AL.clear S1 Y x0_4=true/\True)/\True)/\∀ (x : AL) (S1 : St),R (.one x) S1->true=true/\Q (.one x) S1)/\True)/\True)/\True)/\True)/\True)/\True)/\True)/\(((∃ R,hk.1 44 [.agg
 [x0_0,x0_1,x0_2,x0_3,x0_4]] S [(30,[x0_0,x0_1,x0_2,x0_3,x0_4])] R/\∀ (x : AL) (S1 : St),R (.one x) S1->(∃ R,hk.1 45 [.agg [x0_0,x0_1,x0_2,x0_3,x0_4]] S1 [(30,[x0_0,x0_1,x0_2,x0_3,x0_4])] R/\∀ (x_1 : AL) (S1 : St),R (.one x_1) S1->(∃ R,hk.1 46 [.agg [x0_0,x0_1,x0_2,x0_3,x0_4]] S1 [(30,[x0_0,x0_1,x0_2,x0_3,x0_4])] R/\∀ (x_2 : AL) (S1 : St),R (.one x_2) S1->((∃ R,hk.1 43 [.one
 (.sl (some S1.toks.length) 3 [x,x_1,x_2])] (S1.born (3,24,1)) [(30,[x0_0,x0_1,x0_2,x0_3,x0_4])] R/\∀ (x : AL) (S1 : St),R (.one x) S1->(true=true/\∃ Y R,hk.3 Y 26 [.one x] [] S1 [(30,[x0_0,x0_1,x0_2,x0_3,x0_4])] R/\True/\((AL.clear S1 Y x0_0=true/\AL.clear S1 Y x0_1=true/\AL.clear S1 Y x0_2=true/\AL.clear S1 Y x0_3=true/\AL.clear S1 Y x0_4=true/\True)/\True)/\∀ (x : AL) (S1 :
 St),R (.one x) S1->true=true/\Q (.one x)
 S1)/\True)/\True)/\True)/\True)/\True)/\True)/\True)/\True)/\True)
 := by intros; kernel_rfl
end Go.Proofs.YtkdickfiifpblaaGreatDoor.D
namespace Go.Proofs.YtkdickfiifpblaaGreatDoor.D
open Go Go.Den Go.Proofs
set_option maxRecDepth 100000
variable {w0 : World}
def Tkd (x : AL) : Prop := ∀ len xs, x ≠ .sl none len xs
theorem clrOld {α : Type} {c : α → List AL} (pc : PlC c) {x : AL} {l : List α} (h : Vw c x l) (hk : Tkd x) {n : Nat} (hlt : x.lt n) {S : St} (ho : S.old = n) {tk : Nat} (htk : n ≤ tk) : x.clr S.has tk = true := by
  rcases h with ⟨rfl, _⟩ | ⟨tok, rfl⟩
  · rfl
  · cases tok with
    | none => exact absurd rfl (hk _ _)
    | some u =>
      have hu : u < n := hlt.1
      rw [AL.clr, pc.flat, Bool.and_true, Bool.and_eq_true, Bool.not_eq_true']
      refine ⟨Bool.eq_false_iff.2 fun hb => by have := Nat.eq_of_beq_eq_true hb; omega, ?_⟩
      unfold St.has
      rw [Bool.or_eq_true]
      exact .inr (Nat.ble_eq_true_of_le (by omega))
structure MT (m : Md) : Prop where
  mv : MV m
  tr : Tkd m.xr
  ti : Tkd m.xi
  te : Tkd m.xe
  ts : Tkd m.xs
  tx : Tkd m.xx
theorem MT.clr {m : Md} (h : MT m) {n : Nat} (hlt : argsLt n [m.av]) {S : St} (ho : S.old = n) {tk : Nat} (htk : n ≤ tk) : m.xr.clr S.has tk = true ∧ m.xi.clr S.has tk = true ∧ m.xe.clr S.has tk = true ∧ m.xs.clr S.has tk = true ∧ m.xx.clr S.has tk = true := by
  obtain ⟨⟨h1, h2, h3, h4, h5, _⟩, _⟩ := hlt
  exact ⟨clrOld PlC.Rq h.mv.vr h.tr h1 ho htk, clrOld PlC.Im h.mv.vi h.ti h2 ho htk, clrOld PlC.Xp h.mv.ve h.te h3 ho htk, clrOld PlC.Sm h.mv.vs h.ts h4 ho htk, clrOld PlC.Er h.mv.vx h.tx h5 ho htk⟩
theorem clear_of {S : St} {Y : List Nat} {x : AL} (h : ∀ t, t ∈ Y → x.clr S.has t = true) : x.clear S Y = true := List.all_eq_true.2 h
theorem MT.clear {m : Md} (h : MT m) {n : Nat} (hlt : argsLt n [m.av]) {S : St} (ho : S.old = n) {Y : List Nat} (htk : ∀ t, t ∈ Y → n ≤ t) : m.xr.clear S Y = true ∧ m.xi.clear S Y = true ∧ m.xe.clear S Y = true ∧ m.xs.clear S Y = true ∧ m.xx.clear S Y = true ∧ True :=
  ⟨clear_of fun t ht => (h.clr hlt ho (htk t ht)).1, clear_of fun t ht => (h.clr hlt ho (htk t ht)).2.1, clear_of fun t ht => (h.clr hlt ho (htk t ht)).2.2.1, clear_of fun t ht => (h.clr hlt ho (htk t ht)).2.2.2.1, clear_of fun t ht => (h.clr hlt ho (htk t ht)).2.2.2.2, trivial⟩
theorem MT.clrB {m : Md} (h : MT m) {n : Nat} (hlt : argsLt n [m.av]) {S : St} (ho : S.old = n) {tk : Nat} (htk : n ≤ tk) : clrB S tk (mL m) := by
  intro b hb
  rw [List.mem_singleton.1 hb]
  obtain ⟨h1, h2, h3, h4, h5⟩ := h.clr hlt ho htk
  show clrs S.has tk [m.xr, m.xi, m.xe, m.xs, m.xx] = true
  simp only [clrs, h1, h2, h3, h4, h5]
  rfl
def rYg {α : Type} (c : α → List AL) (sz : Nat) (l : List α) (n : Nat) (v : AV) (S : St) : Prop := ∃ r, v = .one r ∧ Yg c sz S r l ∧ ∀ t, r.tk = some t → n ≤ t
theorem rYg.loc {α : Type} {c : α → List AL} {sz : Nat} {l : List α} : ∀ (n : Nat) (v : AV) (S S' : St), TokSub S S' → rYg c sz l n v S → rYg c sz l n v S' := by
  rintro n v S S' h ⟨r, h1, h2, h3⟩
  refine ⟨r, h1, ?_, h3⟩
  rcases h2 with h2 | ⟨tk, m, e, s, g1, g2, g3, g4⟩
  · exact .inl h2
  · exact .inr ⟨tk, m, e, s, g1, h.tok _ _ g2, h.yng _ g3, g4⟩
theorem rYg.sh {f : FuncId} {fn : Func} (hf : Tryz.prog.funcs[f]? = some fn) (hl : likeVs (tabOf Tryz.prog) fn.resultTypes.toList [.one .nilsl] = true) {α : Type} {c : α → List AL} {sz : Nat} {l : List α} : ∀ (n : Nat) (v : AV) (S : St), rYg c sz l n v S → ∃ fn vs, Tryz.prog.funcs[f]? = some fn ∧ v = tupOf vs ∧ likeVs (tabOf Tryz.prog) fn.resultTypes.toList vs = true :=
  fun _ _ _ hv => by obtain ⟨r, rfl, hr, _⟩ := hv; exact vsh hf hl hr.vw
theorem rYg.dat {α : Type} {c : α → List AL} {sz : Nat} {l : List α} : ∀ (n : Nat) (v : AV) (S : St), rYg c sz l n v S → ∃ vs, v = tupOf vs ∧ vs.all AV.dat = true := by
  rintro n v S ⟨r, rfl, _⟩
  exact ⟨[.one r], rfl, rfl⟩
theorem likeY {ts : List TypeId} {vs : List AV} (h : likeVs (tabOf Tryz.prog) ts vs = true) : likeVs TY ts vs = true := by rw [likeVs_desc (T := tabOf Tryz.prog) (T' := TY) rfl]; exact h
theorem rising_y {S : St} {L : Lo} {x : AL} {l : List BA} (h : Yg Rq 1 S x l) (hn : l.length ≤ 1000000) (hb : ∀ t, x.tk = some t → clrB S t (S.boxes ++ L)) :
    (realHk Tryz.prog w0 TY).toty x.tk.toList 26 [.one x] [] S L fun v S1 => ExtO S S1 ∧ ∃ y, v = .one y ∧ Yg Rq 1 S1 y (setOf l) ∧ (∀ t, y.tk = some t → x.tk = some t) := by
  refine toty_use h.young (r := fun v S1 => ∃ y, v = .one y ∧ Yg Rq 1 S1 y (setOf l) ∧ (∀ t, y.tk = some t → x.tk = some t)) ?_ (fun v S S' hs ⟨y, h1, h2, h3⟩ => ⟨y, h1, h2.same hs, h3⟩) (fun v S ⟨y, h1, h2, h3⟩ => ?_)
  · rcases h with ⟨rfl, rfl⟩ | ⟨tk, m, e, s, rfl, h2, h3, h4⟩
    · refine rising_nil.mono ?_
      rintro v S' ⟨rfl, rfl⟩
      exact ⟨Ext.refl _, .nilsl, rfl, .inl ⟨rfl, rfl⟩, fun t ht => ht⟩
    · have hl := (rise_set l)
      refine (rising_row (S := join S L) h2 h3 (hb tk rfl) (by omega) hn).mono ?_
      rintro v S' ⟨rfl, rfl⟩
      refine ⟨⟨rfl, fun _ _ h => h, Nat.le_refl _, fun t ht => List.mem_append_right _ ht⟩, _, rfl, ?_, fun t ht => ht⟩
      rw [rise_eq]
      exact .inr ⟨tk, m, e, s, rfl, h2, List.mem_cons_self, by have := setOf_len l; omega⟩
  · subst h1
    obtain ⟨fn, vs, g1, g2, g3⟩ := vsh (f := 26) (fn := Tryz.f26) (by kernel_rfl) (by kernel_rfl) h2.vw
    exact ⟨fn, vs, g1, g2, likeY g3⟩
def usesP (m : Md) : List BA := plainU m ++ (memberU m ++ (lexpsL m ++ []))
theorem usesP_eq (m : Md) : setOf (usesP m) = setOf (uses m) := by
  refine ((setOf_is _).congr fun x => ?_).uniq (setOf_is _)
  unfold usesP uses plainU memberU lexpsL
  simp only [List.mem_append, fm_mem, named, Bool.or_eq_true, List.append_nil]
  constructor
  · rintro ((⟨a, h1, h2, h3⟩ | h) | ⟨a, h1, h2, h3⟩ | h)
    · exact .inl (.inl ⟨a, h1, .inl (.inl h2), h3⟩)
    · exact .inl (.inr h)
    · exact .inl (.inl ⟨a, h1, by rcases h2 with h2 | h2; exact .inl (.inr h2); exact .inr h2, h3⟩)
    · exact .inr h
  · rintro ((⟨a, h1, h2, h3⟩ | h) | h)
    · rcases h2 with (h2 | h2) | h2
      · exact .inl (.inl ⟨a, h1, h2, h3⟩)
      · exact .inr (.inl ⟨a, h1, .inl h2, h3⟩)
      · exact .inr (.inl ⟨a, h1, .inr h2, h3⟩)
    · exact .inl (.inr h)
    · exact .inr (.inr h)
theorem plainU_len (m : Md) : (plainU m).length ≤ m.exprs.length + m.stmts.length := by
  unfold plainU
  rw [List.length_append]
  exact Nat.add_le_add (fm_len _ _ _) (fm_len _ _ _)
theorem usesP_len (m : Md) : (usesP m).length ≤ m.exprs.length + m.stmts.length + m.exprs.length + m.exps.length := by
  have h1 := plainU_len m
  have h2 : (memberU m).length ≤ m.exprs.length := fm_len _ _ _
  have h3 : (lexpsL m).length ≤ m.exps.length := fm_len _ _ _
  unfold usesP
  simp only [List.length_append, List.length_nil]
  omega
theorem Uses2_c {m : Md} (h : MT m) : CONR 17 [m.av] (rYg Rq 1 (setOf (uses m))) := by
  refine ConR.of_iso (T' := TY) hTY hmo (nov := cf17) (plans := pl17) rfl rYg.dat ⟨Tryz.f17, by kernel_rfl, by kernel_rfl, by kernel_rfl⟩ rYg.loc (rYg.sh (fn := Tryz.f17) (by kernel_rfl) (by kernel_rfl)) (fun w0 n hlt => ?_)
  rw [show m.av = .agg [m.xr, m.xi, m.xe, m.xs, m.xx] from rfl, v17]
  simp only [and_true, and_self]
  have hm := h.mv
  have c1 := hm.cx
  have c2 := hm.cs
  have c3 := hm.ce
  have hn0 : (iso n).toks.length = n := by simp [iso]
  refine ⟨trivial, trivial, _, (plainUses_c hm).useY (iso n) (mL m), fun x1 S1 hR => ?_⟩
  obtain ⟨hE1, r1, he, hr1, hn1⟩ := hR
  cases he
  refine ⟨_, (memberUses_c hm).useY S1 (mL m), fun x2 S2 hR => ?_⟩
  obtain ⟨hE2, r2, he, hr2, hn2⟩ := hR
  cases he
  refine ⟨_, (localExps_c hm).useY S2 (mL m), fun x3 S3 hR => ?_⟩
  obtain ⟨hE3, r3, he, hr3, hn3⟩ := hR
  cases he
  have hul := usesP_len m
  have hE := hE1.trans (hE2.trans hE3)
  have hge : n ≤ S3.toks.length := by have := hE.ext.2.len; omega
  refine ⟨_, (Concat43_c (x := .sl (some S3.toks.length) 3 [x1, x2, x3]) (ql := [(x1, plainU m), (x2, memberU m), (x3, lexpsL m)]) (.inr ⟨_, rfl⟩) ?_ (by show 3 ≤ 10; omega) (by show (usesP m).length ≤ _; omega)).useY (S3.born (3, 24, 1)) (mL m), fun x4 S4 hR => ?_⟩
  · intro q hq
    simp only [List.mem_cons, List.not_mem_nil, or_false] at hq
    rcases hq with rfl | rfl | rfl
    · exact hr1.vw
    · exact hr2.vw
    · exact hr3.vw
  · obtain ⟨hE4, r4, he, hr4, hn4⟩ := hR
    cases he
    rw [born_len] at hn4
    have hE4 := (hE.trans (ExtO.born S3 _)).trans hE4
    have ho : S4.old = n := hE4.old
    have hY : ∀ t, t ∈ x4.tk.toList → n ≤ t := fun t ht => by
      have := hn4 t (by simpa using ht)
      omega
    refine ⟨trivial, _, _, rising_y (l := usesP m) hr4.yg (by omega) (fun t ht => ?_), trivial, ?_, fun x5 S5 hR => ?_⟩
    · rw [hE4.ext.1]
      exact h.clrB hlt ho (hY t (by simpa using ht))
    · have := h.clear hlt ho hY
      simpa only [and_true] using this
    · obtain ⟨hE5, r5, he, hr5, hn5⟩ := hR
      cases he
      rw [usesP_eq] at hr5
      exact ⟨trivial, x5, rfl, hr5, fun t ht => hY t (by simpa using hn5 t ht)⟩
end Go.Proofs.YtkdickfiifpblaaGreatDoor.D
namespace Go.Proofs.YtkdickfiifpblaaGreatDoor.D
open Go Go.Den Go.Proofs
set_option maxRecDepth 100000
variable {w0 : World}
theorem clrRow {α : Type} {c : α → List AL} {S : St} {e : TypeId} {sz n : Nat} {x : AL} {l : List α} (pc : PlC c) (h : Row S e sz x n (l.flatMap c)) {tk : Nat} (hne : x.tk ≠ some tk) : x.clr S.has tk = true := by
  obtain ⟨_, ⟨rfl, _⟩ | ⟨u, rfl, h2, _⟩⟩ := h
  · rfl
  · rw [AL.clr, pc.flat, Bool.and_true, Bool.and_eq_true, Bool.not_eq_true']
    refine ⟨Bool.eq_false_iff.2 fun hb => hne (by have := Nat.eq_of_beq_eq_true hb; rw [AL.tk, this]), ?_⟩
    unfold St.has
    rw [h2]
    rfl
def iUnP (n : Nat) (m : Md) (y : AL) : Nat → KE := fun mm env S' L => L = mL m ∧ ∃ (i : Nat) (r : AL), env = [(13, .v (int i)), (12, .v (int m.imps.length)), (11, .v (.one m.xi)), (4, .v (.one r)), (3, .v (.one y)), (2, .v (.one .nilsl))] ∧ Grew (iso n) S' r ∧ S'.old = n ∧ i ≤ m.imps.length ∧ mm = m.imps.length - i ∧
  Row S' 9 1 r (fm (fun x => !memB x.loc (setOf (uses m))) Im.loc (m.imps.take i)).length ((fm (fun x => !memB x.loc (setOf (uses m))) Im.loc (m.imps.take i)).flatMap Rq)
theorem Unused2_c {m : Md} (h : MT m) : CONR 25 [m.av] (rYg Rq 1 (setOf (unused m))) := by
  refine ConR.of_iso (T' := TY) hTY hmo (nov := cf25) (plans := np) rfl rYg.dat ⟨Tryz.f25, by kernel_rfl, by kernel_rfl, by kernel_rfl⟩ rYg.loc (rYg.sh (fn := Tryz.f25) (by kernel_rfl) (by kernel_rfl)) (fun w0 n hlt => ?_)
  rw [show m.av = .agg [m.xr, m.xi, m.xe, m.xs, m.xx] from rfl, v25]
  have hm := h.mv
  have c0 := hm.ci
  have c1 := hm.cx
  have c2 := hm.cs
  have c3 := hm.ce
  have hul := usesP_len m
  have hsu : (setOf (uses m)).length ≤ 1000000 := by have := setOf_len (usesP m); rw [usesP_eq] at this; omega
  have hn0 : (iso n).toks.length = n := by simp [iso]
  refine ⟨rfl, _, (Uses2_c h).useY (iso n) (mL m), fun xu S1 hR => ?_⟩
  obtain ⟨hE1, ru, he, hru, hnu⟩ := hR
  cases he
  have hE1' := hE1.trans (ExtO.born S1 (0, 9, 1))
  refine ⟨_, hm.vi.len, [13, 12, 11, 4, 3, 2], iUnP n m xu, m.imps.length, ⟨rfl, 0, _, rfl, Grew.born hE1.ext _, hE1'.old, Nat.zero_le _, rfl, Row.born _ _ _⟩, ?_⟩
  rintro mm env S2 L2 ⟨rfl, i, r, rfl, hG, ho, hi, rfl, hr⟩
  refine WSem.of hTY hmo (nov := cf25) (plans := np) (f := 1000) ?_
  rw [b25_0]
  refine ⟨fun hlt => ?_, fun hge => ?_⟩
  · have hlt := lt_of_dec hlt
    obtain ⟨a, ha⟩ : ∃ a, m.imps[i]? = some a := ⟨_, List.getElem?_eq_getElem hlt⟩
    refine imA hm ha ⟨_, (Contains_c a.loc hru.vw hsu).useY S2 _, fun b S3 hR => ?_⟩
    obtain ⟨hE3, he⟩ := hR
    cases he
    have hG3 := hG.on hE3.ext
    have ho3 : S3.old = n := hE3.old.trans ho
    have hr3 := hr.ext hE3.ext.2
    have hgl : (fm (fun x : Im => !memB x.loc (setOf (uses m))) Im.loc (m.imps.take i)).length ≤ 1000000 := Nat.le_trans (fm_len _ _ _) (by rw [List.length_take]; omega)
    refine ⟨fun hb => ?_, fun hb => ?_⟩
    · obtain ⟨r2, S4, g1, g2, g3, g4, g5, g6, g7⟩ := hr3.pushS a.loc hgl (1, 9, 1)
      rw [← fm_yes ha hb] at g2
      exact ⟨rfl, r2, S4, g1, by unfold in64; omega, loopK.again (L' := mL m) (m' := m.imps.length - (i + 1)) trivial rfl (by omega) ⟨rfl, i + 1, r2, rfl, hG3.push g3 g4 g5 g6 g7, (dAppend2_old g1).trans ho3, hlt, rfl, g2⟩⟩
    · rw [← fm_no (f := Im.loc) ha hb] at hr3
      exact ⟨by unfold in64; omega, loopK.again (L' := mL m) (m' := m.imps.length - (i + 1)) trivial rfl (by omega) ⟨rfl, i + 1, r, rfl, hG3, ho3, hlt, rfl, hr3⟩⟩
  · have hge := ge_of_dec hge
    refine loopK.exit (L' := mL m) trivial rfl (kont.of hTY hmo (nov := cf25) (plans := np) (f := 1000) ?_)
    rw [x25_0]
    rw [take_all hge] at hr
    have hnew := hG.new
    rw [hn0] at hnew
    have hY : ∀ t, t ∈ r.tk.toList → n ≤ t := fun t ht => hnew t (by simpa using ht)
    have hll : (unused m).length ≤ m.imps.length := fm_len _ _ _
    refine ⟨rfl, _, _, rising_y (l := unused m) hr.yg (by omega) (fun t ht => ?_), trivial, ⟨h.clear hlt ho hY, trivial⟩, fun x5 S5 hR => ?_⟩
    · rw [hG.bx]
      exact h.clrB hlt ho (hY t (by simpa using ht))
    · obtain ⟨hE5, r5, he, hr5, hn5⟩ := hR
      cases he
      exact ⟨rfl, x5, rfl, hr5, fun t ht => hY t (by simpa using hn5 t ht)⟩
def freeP (m : Md) : List BA := (plainU m).filter fun s => !memB s (declN m)
theorem declN_len (m : Md) : (declN m).length ≤ m.imps.length + m.stmts.length := by
  unfold declN locals
  rw [List.length_append, List.length_map]
  exact Nat.add_le_add_left (fm_len _ _ _) _
theorem FreeNames2_c {m : Md} (h : MT m) : CONR 21 [m.av] (rYg Rq 1 (setOf (freeP m))) := by
  refine ConR.of_iso (T' := TY) hTY hmo (nov := cf21) (plans := np) rfl rYg.dat ⟨Tryz.f21, by kernel_rfl, by kernel_rfl, by kernel_rfl⟩ rYg.loc (rYg.sh (fn := Tryz.f21) (by kernel_rfl) (by kernel_rfl)) (fun w0 n hlt => ?_)
  rw [show m.av = .agg [m.xr, m.xi, m.xe, m.xs, m.xx] from rfl, v21]
  have hm := h.mv
  have c0 := hm.ci
  have c1 := hm.cx
  have c2 := hm.cs
  have hn0 : (iso n).toks.length = n := by simp [iso]
  have hdl := declN_len m
  have hpl := plainU_len m
  refine ⟨rfl, _, (declaredNames_c hm).useY (iso n) (mL m), fun xd S1 hR => ?_⟩
  obtain ⟨hE1, rd, he, hrd, hnd⟩ := hR
  cases he
  refine ⟨_, (plainUses_c hm).useY S1 _, fun xp S2 hR => ?_⟩
  obtain ⟨hE2, rp, he, hrp, hnp⟩ := hR
  cases he
  have hE := hE1.trans hE2
  have ho : S2.old = n := hE.old
  have hge : n ≤ S1.toks.length := by have := hE1.ext.2.len; omega
  have hY : ∀ t, t ∈ xp.tk.toList → n ≤ t := fun t ht => Nat.le_trans hge (hnp t (by simpa using ht))
  have hxd : ∀ S' (k : TokLe S1 S'), ∀ t, t ∈ xp.tk.toList → xd.clr S'.has t = true := fun S' k t ht => clrRow PlC.Rq (hrd.ext k) (fun he => by
    have := hrd.lt he
    have := hnp t (by simpa using ht)
    omega)
  have hbx : S2.boxes = [] := hE.ext.1
  have hcb : ∀ S', ExtO S2 S' → ∀ t, t ∈ xp.tk.toList → clrB S' t (S'.boxes ++ [(30, m.cs), (24, [xd])]) := fun S' k t ht b hb => by
    rw [k.ext.1, hbx, List.nil_append, List.mem_cons] at hb
    rcases hb with rfl | hb
    · exact h.clrB hlt (k.old.trans ho) (hY t ht) _ (List.mem_singleton.2 rfl)
    · rw [List.mem_singleton.1 hb]
      show clrs S'.has t [xd] = true
      rw [clrs, hxd S' (hE2.ext.2.trans k.ext.2) t ht]
      rfl
  refine ⟨rfl, _, _, Del20c_y (L := [(30, m.cs), (24, [xd])]) hrp.yg (by omega) (fun t ht => hcb S2 (ExtO.refl _) t (by simpa using ht)) (t := 24) hrd.vw (by omega) (c := S2.boxes.length + 1) (by rw [List.getElem?_append_right (by omega)]; simp), trivial, ⟨h.clear hlt ho hY, ⟨clear_of (hxd S2 hE2.ext.2), trivial⟩, trivial⟩, fun x3 S3 hR => ?_⟩
  obtain ⟨hE3, r3, he, hr3, hn3⟩ := hR
  cases he
  have hY3 : ∀ t, t ∈ x3.tk.toList → t ∈ xp.tk.toList := fun t ht => by
    have := hn3 t (by simpa using ht)
    simpa using this
  have hfl : (freeP m).length ≤ (plainU m).length := List.length_filter_le _ _
  refine ⟨rfl, _, _, rising_y (L := [(30, m.cs), (24, [xd])]) (l := freeP m) hr3 (by omega) (fun t ht => hcb S3 hE3 t (hY3 t (by simpa using ht))), trivial, ⟨h.clear hlt (hE3.old.trans ho) (fun t ht => hY t (hY3 t ht)), ⟨clear_of (fun t ht => hxd S3 (hE2.ext.2.trans hE3.ext.2) t (hY3 t ht)), trivial⟩, trivial⟩, fun x4 S4 hR => ?_⟩
  obtain ⟨hE4, r4, he, hr4, hn4⟩ := hR
  cases he
  exact ⟨rfl, x4, rfl, hr4, fun t ht => hY t (hY3 t (by simpa using hn4 t ht))⟩
end Go.Proofs.YtkdickfiifpblaaGreatDoor.D
namespace Go.Proofs.YtkdickfiifpblaaGreatDoor.D
open Go Go.Den Go.Proofs
set_option maxRecDepth 100000
variable {w0 : World}
def isWrP (m : Md) (s : Sm) : Bool := s.k == 3 && hasImp m s.name
def isNvP (m : Md) (s : Sm) : Bool := (s.k == 1 || s.k == 2) && !memB s.name (setOf (uses m))
def wrP (m : Md) : List BA := fm (isWrP m) Sm.name m.stmts
def nvP (m : Md) : List BA := fm (isNvP m) Sm.name m.stmts
def freeLP (m : Md) : List BA := (setOf (freeP m)).filter fun s => !decide (s = undB)
def lintP (m : Md) : List Nt := nts 1 (setOf (unused m)) ++ (nts 2 (freeLP m) ++ (nts 3 (setOf (wrP m)) ++ (nts 4 (setOf (nvP m)) ++ [])))
structure Fro (n : Nat) (S : St) : Prop where
  bx : S.boxes = []
  old : S.old = n
  len : n ≤ S.toks.length
theorem Fro.on {n : Nat} {S S' : St} (h : Fro n S) (k : ExtO S S') : Fro n S' := ⟨k.ext.1.trans h.bx, k.old.trans h.old, Nat.le_trans h.len k.ext.2.len⟩
structure TwoR (n : Nat) (S : St) (x y : AL) (l r : List BA) : Prop where
  fro : Fro n S
  rx : Row S 9 1 x l.length (l.flatMap Rq)
  ry : Row S 9 1 y r.length (r.flatMap Rq)
  nx : ∀ t, x.tk = some t → n ≤ t
  ny : ∀ t, y.tk = some t → n ≤ t
  ne : ∀ t, x.tk = some t → y.tk ≠ some t
theorem TwoR.on {n : Nat} {S S' : St} {x y : AL} {l r : List BA} (h : TwoR n S x y l r) (k : ExtO S S') : TwoR n S' x y l r := ⟨h.fro.on k, h.rx.ext k.ext.2, h.ry.ext k.ext.2, h.nx, h.ny, h.ne⟩
theorem TwoR.swap {n : Nat} {S : St} {x y : AL} {l r : List BA} (h : TwoR n S x y l r) : TwoR n S y x r l := ⟨h.fro, h.ry, h.rx, h.ny, h.nx, fun t hy hx => h.ne t hx hy⟩
theorem TwoR.pushX {n : Nat} {S : St} {x y : AL} {l r : List BA} (h : TwoR n S x y l r) (s : BA) (hl : l.length ≤ 1000000) :
    ∃ x' S', dAppend2 (tabOf Tryz.prog) 24 x (.sl (some S.toks.length) 1 [.str s]) (S.born (1, 9, 1)) = some (x', S') ∧ TwoR n S' x' y (l ++ [s]) r := by
  obtain ⟨r2, S4, g1, g2, g3, g4, g5, ⟨k, hk, hle⟩, g7⟩ := h.rx.pushS s hl (1, 9, 1)
  refine ⟨r2, S4, g1, ⟨⟨g3.trans h.fro.bx, (dAppend2_old g1).trans h.fro.old, by have := h.fro.len; omega⟩, g2, h.ry.keep (fun t z ht hz => g5 t z hz (fun hx => h.ne t hx ht)) g7, fun t ht => ?_, h.ny, fun t ht hy => ?_⟩⟩
  · rw [hk] at ht
    cases ht
    exact Nat.le_trans h.fro.len hle
  · rw [hk] at ht
    cases ht
    have := h.ry.lt hy
    omega
def iLi (n : Nat) (m : Md) (xu : AL) : Nat → KE := fun mm env S' L => L = mL m ∧ ∃ (i : Nat) (x4 x5 : AL), env = [(18, .v (int i)), (17, .v (int m.stmts.length)), (16, .v (.one m.xs)), (5, .v (.one x5)), (4, .v (.one x4)), (3, .v (.one xu)), (2, .v (.one .nilsl)), (1, .loc 0 0)] ∧ i ≤ m.stmts.length ∧ mm = m.stmts.length - i ∧
  TwoR n S' x4 x5 (fm (isWrP m) Sm.name (m.stmts.take i)) (fm (isNvP m) Sm.name (m.stmts.take i))
theorem Lint2_c {m : Md} (h : MT m) : CONR 6 [m.av] (rRowG Nt.cells 36 2 (lintP m)) := by
  refine ConR.of_iso (T' := TY) hTY hmo (nov := cf6) (plans := np) rfl (fun n v S hv => by obtain ⟨r, rfl, _⟩ := hv; exact ⟨[.one r], rfl, rfl⟩) ⟨Tryz.f6, by kernel_rfl, by kernel_rfl, by kernel_rfl⟩ rRowG.loc (rRowG.sh (fn := Tryz.f6) (by kernel_rfl) (by kernel_rfl)) (fun w0 n hlt => ?_)
  rw [show m.av = .agg [m.xr, m.xi, m.xe, m.xs, m.xx] from rfl, v6]
  have hm := h.mv
  have c0 := hm.ci
  have c1 := hm.cx
  have c2 := hm.cs
  have c3 := hm.ce
  have hul := usesP_len m
  have hsu : (setOf (uses m)).length ≤ 1000000 := by have := setOf_len (usesP m); rw [usesP_eq] at this; omega
  have hn0 : (iso n).toks.length = n := by simp [iso]
  refine ⟨rfl, _, (Uses2_c h).useY (iso n) (mL m), fun xu S1 hR => ?_⟩
  obtain ⟨hE1, ru, he, hru, hnu⟩ := hR
  cases he
  have hl1 : n ≤ S1.toks.length := by have := hE1.ext.2.len; omega
  have start : TwoR n ((S1.born (0, 9, 1)).born (0, 9, 1)) (.sl (some S1.toks.length) 0 []) (.sl (some (S1.born (0, 9, 1)).toks.length) 0 []) [] [] := by
    refine ⟨⟨hE1.ext.1, hE1.old, by rw [born_len, born_len]; omega⟩, (Row.born S1 9 1).ext (TokLe.born _ _), Row.born _ _ _, fun t ht => ?_, fun t ht => ?_, fun t ht hy => ?_⟩
    · cases ht; exact hl1
    · cases ht; rw [born_len]; omega
    · cases ht
      have := Option.some.inj hy
      rw [born_len] at this
      omega
  refine ⟨_, hm.vs.len, [18, 17, 16, 5, 4, 3, 2, 1], iLi n m xu, m.stmts.length, ⟨rfl, 0, _, _, rfl, Nat.zero_le _, rfl, start⟩, ?_⟩
  rintro mm env S2 L2 ⟨rfl, i, x4, x5, rfl, hi, rfl, ht⟩
  refine WSem.of hTY hmo (nov := cf6) (plans := np) (f := 1000) ?_
  rw [b6_0]
  have gl4 : (fm (isWrP m) Sm.name (m.stmts.take i)).length ≤ 1000000 := Nat.le_trans (fm_len _ _ _) (by rw [List.length_take]; omega)
  have gl5 : (fm (isNvP m) Sm.name (m.stmts.take i)).length ≤ 1000000 := Nat.le_trans (fm_len _ _ _) (by rw [List.length_take]; omega)
  refine ⟨fun hlt2 => ?_, fun hge => ?_⟩
  · have hlt2 := lt_of_dec hlt2
    obtain ⟨a, ha⟩ : ∃ a, m.stmts[i]? = some a := ⟨_, List.getElem?_eq_getElem hlt2⟩
    refine smA hm ha ⟨_, (impOf_c hm a.name).useY S2 _, fun s1 s2 s3 b S3 hR => ?_⟩
    obtain ⟨hE3, _, _, _, he⟩ := hR
    cases he
    have ht3 := ht.on hE3
    have wr : a.k = 3 → hasImp m a.name = true → isNvP m a = false ∧ isWrP m a = true := fun h3 hi => by unfold isNvP isWrP; rw [h3, hi]; exact ⟨rfl, rfl⟩
    -- nothing is put
    have skip : ∀ {Q : QW} {L1 : Lo} {S4 : St}, TwoR n S4 x4 x5 (fm (isWrP m) Sm.name (m.stmts.take i)) (fm (isNvP m) Sm.name (m.stmts.take i)) → L1.take 1 = mL m → isWrP m a = false → isNvP m a = false →
        in64 ((i : Int) + 1) ∧ loopK (iLi n m xu) 1 (m.stmts.length - i) Q .normal [(18, .v (int ((i : Int) + 1))), (17, .v (int m.stmts.length)), (16, .v (.one m.xs)), (5, .v (.one x5)), (4, .v (.one x4)), (3, .v (.one xu)), (2, .v (.one .nilsl)), (1, .loc 0 0)] S4 L1 := by
      intro Q L1 S4 h4 hL hw hv
      rw [← fm_no (f := Sm.name) ha hw, ← fm_no (f := Sm.name) ha hv] at h4
      exact ⟨by unfold in64; omega, loopK.again (L' := mL m) (m' := m.stmts.length - (i + 1)) ⟨Nat.zero_lt_one, trivial⟩ hL (by omega) ⟨rfl, i + 1, x4, x5, rfl, hlt2, rfl, h4⟩⟩
    -- a name that is told of
    have nev : ∀ {Q : QW}, isWrP m a = false → (a.k == 1 || a.k == 2) = true → ∃ R, (realHk Tryz.prog w0 TY).1 19 [.one xu, str a.name] S3 [(30, m.cs), (46, a.cells), (48, [.str s1, .str s2, .str s3])] R ∧ ∀ (b : Bool) (S1 : St), R (bool b) S1 → ((!b) = true → 24 = 24 ∧ ∃ r S', dAppend2 TY 24 x5 (.sl (some S1.toks.length) 1 [.str a.name]) (S1.born (1, 9, 1)) = some (r, S') ∧ in64 ((i : Int) + 1) ∧ loopK (iLi n m xu) 1 (m.stmts.length - i) Q .normal [(18, .v (int ((i : Int) + 1))), (17, .v (int m.stmts.length)), (16, .v (.one m.xs)), (5, .v (.one r)), (4, .v (.one x4)), (3, .v (.one xu)), (2, .v (.one .nilsl)), (1, .loc 0 0)] S' [(30, m.cs), (46, a.cells), (48, [.str s1, .str s2, .str s3])]) ∧
          ((!b) = false → in64 ((i : Int) + 1) ∧ loopK (iLi n m xu) 1 (m.stmts.length - i) Q .normal [(18, .v (int ((i : Int) + 1))), (17, .v (int m.stmts.length)), (16, .v (.one m.xs)), (5, .v (.one x5)), (4, .v (.one x4)), (3, .v (.one xu)), (2, .v (.one .nilsl)), (1, .loc 0 0)] S1 [(30, m.cs), (46, a.cells), (48, [.str s1, .str s2, .str s3])]) := by
      intro Q hw hk
      refine ⟨_, (Contains_c a.name hru.vw hsu).useY S3 _, fun b S4 hR => ?_⟩
      obtain ⟨hE4, he⟩ := hR
      cases he
      have h4 := ht3.on hE4
      refine ⟨fun hb => ?_, fun hb => ?_⟩
      · have hv : isNvP m a = true := by unfold isNvP; rw [hk, hb]; rfl
        obtain ⟨r, S5, g1, g2⟩ := h4.swap.pushX a.name gl5
        have g2 := g2.swap
        rw [← fm_no (f := Sm.name) ha hw, ← fm_yes (f := Sm.name) ha hv] at g2
        exact ⟨rfl, r, S5, g1, by unfold in64; omega, loopK.again (L' := mL m) (m' := m.stmts.length - (i + 1)) ⟨Nat.zero_lt_one, trivial⟩ rfl (by omega) ⟨rfl, i + 1, x4, r, rfl, hlt2, rfl, g2⟩⟩
      · have hv : isNvP m a = false := by unfold isNvP; rw [hk, hb]; rfl
        exact skip h4 rfl hw hv
    have two : ∀ {Q : QW}, isWrP m a = false → _ ∧ _ := fun {Q} hw => (⟨fun h1 => nev (Q := Q) hw (by rw [h1]; rfl), fun h1 => ⟨fun h2 => nev (Q := Q) hw (by rw [h2, Bool.or_true]), fun h2 => skip (Q := Q) (L1 := [(30, m.cs), (46, a.cells), (48, [.str s1, .str s2, .str s3])]) ht3 rfl hw (by unfold isNvP; rw [h1, h2]; rfl)⟩⟩ : ((a.k == 1) = true → _) ∧ ((a.k == 1) = false → ((a.k == 2) = true → _) ∧ ((a.k == 2) = false → _)))
    refine ⟨fun h3 => ⟨fun hb => ?_, fun hb => ?_⟩, fun h3 => ?_⟩
    · obtain ⟨hv, hw⟩ := wr (eq_of_beq h3) hb
      obtain ⟨r, S5, g1, g2⟩ := ht3.pushX a.name gl4
      rw [← fm_yes (f := Sm.name) ha hw, ← fm_no (f := Sm.name) ha hv] at g2
      exact ⟨rfl, r, S5, g1, by unfold in64; omega, loopK.again (L' := mL m) (m' := m.stmts.length - (i + 1)) ⟨Nat.zero_lt_one, trivial⟩ rfl (by omega) ⟨rfl, i + 1, r, x5, rfl, hlt2, rfl, g2⟩⟩
    · exact two (by unfold isWrP; rw [hb, Bool.and_false])
    · exact two (by unfold isWrP; rw [h3, Bool.false_and])
  · have hge := ge_of_dec hge
    refine loopK.exit (L' := mL m) ⟨Nat.zero_lt_one, trivial⟩ rfl (kont.of hTY hmo (nov := cf6) (plans := np) (f := 1000) ?_)
    rw [x6_0]
    rw [take_all hge] at ht
    have ht : TwoR n S2 x4 x5 (wrP m) (nvP m) := ht
    have hw : (wrP m).length ≤ m.stmts.length := fm_len _ _ _
    have hv : (nvP m).length ≤ m.stmts.length := fm_len _ _ _
    have hpl := plainU_len m
    have hfp : (freeP m).length ≤ (plainU m).length := List.length_filter_le _ _
    have hsf := setOf_len (freeP m)
    have hfl : (freeLP m).length ≤ (setOf (freeP m)).length := List.length_filter_le _ _
    have hun : (unused m).length ≤ m.imps.length := fm_len _ _ _
    have hsn := setOf_len (unused m)
    have hsw := setOf_len (wrP m)
    have hsv := setOf_len (nvP m)
    have mc : ∀ {S' : St} {Y : List Nat}, Fro n S' → (∀ t, t ∈ Y → n ≤ t) → (m.xr.clear S' Y = true ∧ m.xi.clear S' Y = true ∧ m.xe.clear S' Y = true ∧ m.xs.clear S' Y = true ∧ m.xx.clear S' Y = true ∧ True) ∧ True := fun hf hY => ⟨h.clear hlt hf.old hY, trivial⟩
    have mb : ∀ {S' : St} {t : Nat}, Fro n S' → n ≤ t → clrB S' t (S'.boxes ++ mL m) := fun hf hY => by
      rw [hf.bx]
      exact h.clrB hlt hf.old hY
    -- FreeNames
    refine ⟨_, (FreeNames2_c h).useY S2 (mL m), fun xf S3 hR => ?_⟩
    obtain ⟨hE3, _, he, hrf, hnf⟩ := hR
    cases he
    have t3 := ht.on hE3
    have hl2 := ht.fro.len
    have old4 : ∀ t, t ∈ xf.tk.toList → S2.toks.length ≤ t := fun t h => hnf t (by simpa using h)
    refine ⟨rfl, _, _, Del20b_y (L := mL m) hrf (by omega) (fun t h => mb t3.fro (by have := hnf t h; omega)), ⟨clear_of fun t h => clrRow PlC.Rq t3.rx (fun e => by have := ht.rx.lt e; have := old4 t h; omega), clear_of fun t h => clrRow PlC.Rq t3.ry (fun e => by have := ht.ry.lt e; have := old4 t h; omega), trivial⟩, mc t3.fro (fun t h => by have := old4 t h; omega), fun xg S4 hR => ?_⟩
    obtain ⟨hE4, _, he, hrg, hng⟩ := hR
    cases he
    have t4 := t3.on hE4
    have hrg : Yg Rq 1 S4 xg (freeLP m) := hrg
    -- Unused
    refine ⟨_, (Unused2_c h).useY S4 (mL m), fun xn S5 hR => ?_⟩
    obtain ⟨hE5, _, he, hrn, hnn⟩ := hR
    cases he
    have t5 := t4.on hE5
    refine ⟨_, (notes_c 1 hrn.vw (by omega)).useY S5 (mL m), fun y1 S6 hR => ?_⟩
    obtain ⟨hE6, _, he, hr1, hn1⟩ := hR
    cases he
    have t6 := t5.on hE6
    refine ⟨_, (notes_c 2 hrg.vw (by omega)).useY S6 (mL m), fun y2 S7 hR => ?_⟩
    obtain ⟨hE7, _, he, hr2, hn2⟩ := hR
    cases he
    have t7 := t6.on hE7
    have r17 := hr1.ext hE7.ext.2
    have a4 : ∀ t, t ∈ x4.tk.toList → x4.tk = some t := fun t h => by simpa using h
    have a5 : ∀ t, t ∈ x5.tk.toList → x5.tk = some t := fun t h => by simpa using h
    refine ⟨rfl, _, _, rising_y (L := mL m) t7.rx.yg (by omega) (fun t h => mb t7.fro (t7.nx t h)), ⟨clear_of fun t h => clrRow PlC.Nt r17 (fun e => by have := t5.rx.lt (a4 t h); have := hn1 t e; omega), clear_of fun t h => clrRow PlC.Nt hr2 (fun e => by have := t6.rx.lt (a4 t h); have := hn2 t e; omega), clear_of fun t h => clrRow PlC.Rq t7.ry (t7.ne t (a4 t h)), trivial⟩, mc t7.fro (fun t h => t7.nx t (a4 t h)), fun y3 S8 hR => ?_⟩
    obtain ⟨hE8, _, he, hr3, _⟩ := hR
    cases he
    have t8 := t7.on hE8
    refine ⟨_, (notes_c 3 hr3.vw (by omega)).useY S8 (mL m), fun y4 S9 hR => ?_⟩
    obtain ⟨hE9, _, he, hr4, hn4⟩ := hR
    cases he
    have t9 := t8.on hE9
    have r19 := r17.ext (hE8.trans hE9).ext.2
    have r29 := hr2.ext (hE8.trans hE9).ext.2
    refine ⟨rfl, _, _, rising_y (L := mL m) t9.ry.yg (by omega) (fun t h => mb t9.fro (t9.ny t h)), ⟨clear_of fun t h => clrRow PlC.Nt r19 (fun e => by have := t5.ry.lt (a5 t h); have := hn1 t e; omega), clear_of fun t h => clrRow PlC.Nt r29 (fun e => by have := t6.ry.lt (a5 t h); have := hn2 t e; omega), clear_of fun t h => clrRow PlC.Nt hr4 (fun e => by have := t8.ry.lt (a5 t h); have := hn4 t e; omega), trivial⟩, mc t9.fro (fun t h => t9.ny t (a5 t h)), fun y5 S10 hR => ?_⟩
    obtain ⟨hE10, _, he, hr5, _⟩ := hR
    cases he
    have t10 := t9.on hE10
    refine ⟨_, (notes_c 4 hr5.vw (by omega)).useY S10 (mL m), fun y6 S11 hR => ?_⟩
    obtain ⟨hE11, _, he, hr6, hn6⟩ := hR
    cases he
    have t11 := t10.on hE11
    have hnl : ∀ (k : Int) (l : List BA), (nts k l).length = l.length := fun k l => by rw [nts, List.length_map]
    refine ⟨_, (Concat23_c (x := .sl (some S11.toks.length) 4 [y1, y2, y4, y6]) (ql := [(y1, nts 1 (setOf (unused m))), (y2, nts 2 (freeLP m)), (y4, nts 3 (setOf (wrP m))), (y6, nts 4 (setOf (nvP m)))]) (.inr ⟨_, rfl⟩) ?_ (by show 4 ≤ 10; omega) ?_).useY (S11.born (4, 32, 1)) (mL m), fun z S12 hR => ?_⟩
    · intro q hq
      simp only [List.mem_cons, List.not_mem_nil, or_false] at hq
      rcases hq with rfl | rfl | rfl | rfl
      · exact hr1.vw
      · exact hr2.vw
      · exact hr4.vw
      · exact hr6.vw
    · show (lintP m).length ≤ _
      unfold lintP
      simp only [List.length_append, List.length_nil, hnl]
      omega
    · obtain ⟨hE12, _, he, hr, hn⟩ := hR
      cases he
      refine ⟨rfl, z, rfl, hr, fun t h => ?_⟩
      have := hn t h
      have := t11.fro.len
      rw [born_len] at *
      omega
end Go.Proofs.YtkdickfiifpblaaGreatDoor.D
namespace Go.Den
open Go.RowKit
section
variable {P : Program} {w0 : World} {T : Tab} {n : Nat}
def mkPlan (ops : Array Oper) : Nat → Array Bool → Plan
  | 0, _ => .done
  | k + 1, listed => match Region.ready .any ops listed with
    | [] => .done
    | i :: r => .all ((i :: r).map fun i => (i, mkPlan ops k (listed.setIfInBounds i true)))
def unl (ops : Array Oper) (listed : Array Bool) : List Nat := (List.range ops.size).filter fun i => !listed.getD i true
theorem getD_set (l : Array Bool) (i j : Nat) : (l.setIfInBounds i true).getD j true = (l.getD j true || j == i) := by
  rw [Array.getD_eq_getD_getElem?, Array.getD_eq_getD_getElem?, Array.getElem?_setIfInBounds]
  by_cases h : i = j
  · subst h
    rw [if_pos rfl]
    split <;> simp
  · rw [if_neg h]
    have : (j == i) = false := by simp; omega
    rw [this, Bool.or_false]
theorem ready_mem {ops : Array Oper} {listed : Array Bool} {i : Nat} (h : i ∈ Region.ready .any ops listed) : i < ops.size ∧ listed.getD i true = false ∧ ∃ o, ops[i]? = some o ∧ ∀ e, e ∈ o.after → Region.binds .any e = true → listed.getD e.on false = true := by
  unfold Region.ready at h
  obtain ⟨h1, h2⟩ := List.mem_filter.1 h
  rw [Bool.and_eq_true, Bool.not_eq_true'] at h2
  have hi := List.mem_range.1 h1
  refine ⟨hi, h2.1, ops[i], Array.getElem?_eq_getElem hi, fun e he hb => ?_⟩
  have := h2.2
  rw [Array.getElem?_eq_getElem hi] at this
  have := Array.all_eq_true_iff_forall_mem.1 (show (ops[i].after.all fun e => !Region.binds .any e || listed.getD e.on false) = true from this) e he
  rw [hb] at this
  simpa using this
theorem filt_lt {p q : Nat → Bool} (h : ∀ x, q x = true → p x = true) {i : Nat} (hp : p i = true) (hq : q i = false) : ∀ {l : List Nat}, i ∈ l → (l.filter q).length < (l.filter p).length
  | [], hi => by cases hi
  | x :: l, hi => by
    have hle : (l.filter q).length ≤ (l.filter p).length := by
      clear hi
      induction l with
      | nil => simp
      | cons y l ih =>
        rw [List.filter_cons, List.filter_cons]
        cases hy : q y with
        | true => rw [h y hy]; simpa using ih
        | false => cases p y <;> simp <;> omega
    rw [List.filter_cons, List.filter_cons]
    rcases List.mem_cons.1 hi with rfl | hi
    · rw [hp, hq]
      simp
      omega
    · have := filt_lt h hp hq hi
      cases hy : q x with
      | true => rw [h x hy]; simpa using this
      | false => cases p x <;> simp <;> omega
theorem unl_set {ops : Array Oper} {listed : Array Bool} {i : Nat} (h : i ∈ Region.ready .any ops listed) : (unl ops (listed.setIfInBounds i true)).length < (unl ops listed).length := by
  obtain ⟨h1, h2, _⟩ := ready_mem h
  refine filt_lt (fun x hx => ?_) (i := i) ?_ ?_ (List.mem_range.2 h1)
  · rw [getD_set] at hx
    revert hx
    cases listed.getD x true <;> simp
  · rw [h2]; rfl
  · rw [getD_set]; simp
theorem unl_ready {ops : Array Oper} {listed : Array Bool} (h : (unl ops listed).length = 0) : Region.ready .any ops listed = [] := by
  cases hr : Region.ready .any ops listed with
  | nil => rfl
  | cons i r =>
    obtain ⟨h1, h2, _⟩ := ready_mem (listed := listed) (i := i) (by rw [hr]; exact List.mem_cons_self)
    have : i ∈ unl ops listed := List.mem_filter.2 ⟨List.mem_range.2 h1, by rw [h2]; rfl⟩
    rw [List.eq_nil_of_length_eq_zero h] at this
    cases this
theorem planOkL_map {ops : Array Oper} {k : Nat} {listed : Array Bool} {f : Nat → Plan} : ∀ l : List Nat, (∀ i, i ∈ l → planOk ops k (listed.setIfInBounds i true) (f i) = true) → planOkL ops k listed (l.map fun i => (i, f i)) = true
  | [], _ => by simp [planOkL]
  | i :: l, h => by
    rw [List.map_cons, planOkL, Bool.and_eq_true]
    exact ⟨h i List.mem_cons_self, planOkL_map l fun j hj => h j (List.mem_cons_of_mem _ hj)⟩
theorem mkPlan_ok {ops : Array Oper} : ∀ (k : Nat) (listed : Array Bool), (unl ops listed).length ≤ k → planOk ops k listed (mkPlan ops k listed) = true
  | 0, listed, h => by
    rw [mkPlan, planOk, unl_ready (by omega)]
    rfl
  | k + 1, listed, h => by
    rw [mkPlan]
    cases hr : Region.ready .any ops listed with
    | nil => simp only []; rw [planOk, hr]; rfl
    | cons i r =>
      simp only []
      rw [planOk, hr, Bool.and_eq_true, Bool.and_eq_true]
      refine ⟨⟨rfl, ?_⟩, planOkL_map _ fun j hj => mkPlan_ok k _ (by have := unl_set (show j ∈ Region.ready .any ops listed by rw [hr]; exact hj); omega)⟩
      rw [List.map_map]
      have : (i :: r).map ((·.1) ∘ fun i => (i, mkPlan ops k (listed.setIfInBounds i true))) = i :: r := (List.map_congr_left fun a _ => rfl).trans (List.map_id _)
      rw [this]
      exact beq_self_eq_true _
def orderedOps (ops : Array Oper) : Bool := (List.range ops.size).all fun i => match ops[i]? with | some o => o.after.all fun e => Nat.blt e.on i | none => true
theorem all_done {ops : Array Oper} (ho : orderedOps ops = true) {listed : Array Bool} (hs : listed.size = ops.size) (hr : Region.ready .any ops listed = []) : ∀ i, i < ops.size → listed.getD i true = true := by
  intro i
  induction i using Nat.strongRecOn with
  | _ i ih =>
    intro hi
    cases hd : listed.getD i true with
    | true => rfl
    | false =>
      have hn : i ∉ Region.ready .any ops listed := by rw [hr]; exact List.not_mem_nil
      refine absurd ?_ hn
      unfold Region.ready
      refine List.mem_filter.2 ⟨List.mem_range.2 hi, ?_⟩
      rw [hd, Array.getElem?_eq_getElem hi]
      show (true && (ops[i].after.all fun e => !Region.binds .any e || listed.getD e.on false)) = true
      rw [Bool.true_and]
      refine Array.all_eq_true_iff_forall_mem.2 fun e he => ?_
      have h1 := List.all_eq_true.1 ho i (List.mem_range.2 hi)
      rw [Array.getElem?_eq_getElem hi] at h1
      have h2 := Nat.le_of_ble_eq_true (Array.all_eq_true_iff_forall_mem.1 (show (ops[i].after.all fun e => Nat.blt e.on i) = true from h1) e he)
      have h3 := ih e.on h2 (Nat.lt_trans h2 hi)
      rw [Array.getD_eq_getD_getElem?, Array.getElem?_eq_getElem (by omega)] at h3
      rw [Array.getD_eq_getD_getElem?, Array.getElem?_eq_getElem (by omega)]
      have h3 : listed[e.on] = true := h3
      simp [h3]
theorem dPlanL_map {ops : Array Oper} {f : Nat → Plan} {ρ : Rho} {S : St} {K : Rho → St → Prop} : ∀ l : List Nat, (∀ i, i ∈ l → ∃ o, ops[i]? = some o ∧ dOneY P w0 T n ops o ρ S fun ρ S => dPlan P w0 T n ops (f i) ρ S K) → dPlanL P w0 T n ops (l.map fun i => (i, f i)) ρ S K
  | [], _ => by simp [dPlanL]
  | i :: l, h => by
    obtain ⟨o, h1, h2⟩ := h i List.mem_cons_self
    rw [List.map_cons, dPlanL, h1]
    exact ⟨h2, dPlanL_map l fun j hj => h j (List.mem_cons_of_mem _ hj)⟩
theorem dPlan_inv {ops : Array Oper} (ho : orderedOps ops = true) {K : Rho → St → Prop} (I : (Nat → Bool) → Rho → St → Prop)
    (step : ∀ (d : Nat → Bool) ρ S i o, I d ρ S → ops[i]? = some o → d i = false → (∀ e, e ∈ o.after → Region.binds .any e = true → d e.on = true) → dOneY P w0 T n ops o ρ S (I fun j => d j || j == i))
    (hend : ∀ (d : Nat → Bool) ρ S, I d ρ S → (∀ i, i < ops.size → d i = true) → K ρ S) : ∀ (k : Nat) (listed : Array Bool) (ρ : Rho) (S : St), listed.size = ops.size → (unl ops listed).length ≤ k → I (fun j => listed.getD j true) ρ S → dPlan P w0 T n ops (mkPlan ops k listed) ρ S K
  | 0, listed, ρ, S, hs, hk, h => by
    rw [mkPlan, dPlan]
    exact hend _ ρ S h (all_done ho hs (unl_ready (by omega)))
  | k + 1, listed, ρ, S, hs, hk, h => by
    rw [mkPlan]
    cases hr : Region.ready .any ops listed with
    | nil =>
      simp only []
      rw [dPlan]
      exact hend _ ρ S h (all_done ho hs hr)
    | cons i r =>
      simp only []
      rw [dPlan]
      refine dPlanL_map _ fun j hj => ?_
      have hj : j ∈ Region.ready .any ops listed := by rw [hr]; exact hj
      obtain ⟨h1, h2, o, h3, h4⟩ := ready_mem hj
      refine ⟨o, h3, dOneY_mono (fun ρ' S' hI => ?_) (step _ ρ S j o h h3 h2 fun e he hb => ?_)⟩
      · refine dPlan_inv ho I step hend k _ ρ' S' (by simpa using hs) (by have := unl_set hj; omega) ?_
        rw [show (fun x => (listed.setIfInBounds j true).getD x true) = fun x => listed.getD x true || x == j from funext fun x => getD_set listed j x]
        exact hI
      · have h5 := h4 e he hb
        rw [Array.getD_eq_getD_getElem?] at h5 ⊢
        revert h5
        cases listed[e.on]? <;> simp
theorem dwp_inv {id nb0 : Nat} {ops : Array Oper} (hm : P.follows .mixedOrders = true) (hns : Region.noSelect ops = true) (ho : orderedOps ops = true) {ρ : Rho} {S : St} {Q : Ex → Rho → St → Prop} (I : (Nat → Bool) → Rho → St → Prop)
    (h0 : I (fun j => Nat.ble ops.size j) ρ S)
    (step : ∀ (d : Nat → Bool) ρ S i o, I d ρ S → ops[i]? = some o → d i = false → (∀ e, e ∈ o.after → Region.binds .any e = true → d e.on = true) → dOneY P w0 T n ops o ρ S (I fun j => d j || j == i))
    (hend : ∀ (d : Nat → Bool) ρ S, I d ρ S → (∀ i, i < ops.size → d i = true) → Q .normal ρ S) : dwp P w0 T n nb0 (.region id ops true) ρ S Q := by
  have hu : (unl ops (Array.replicate ops.size false)).length ≤ ops.size := Nat.le_trans (List.length_filter_le _ _) (by simp)
  refine ⟨hm, mkPlan ops ops.size (Array.replicate ops.size false), hns, mkPlan_ok _ _ hu, dPlan_inv ho I step hend _ _ ρ S (by simp) hu ?_⟩
  have e : (fun j => (Array.replicate ops.size false).getD j true) = fun j => Nat.ble ops.size j := by
    funext j
    rw [Array.getD_eq_getD_getElem?]
    by_cases h : j < ops.size
    · rw [Array.getElem?_eq_getElem (by simpa using h)]
      simp
      exact Bool.eq_false_iff.2 fun hb => by have := Nat.le_of_ble_eq_true hb; omega
    · rw [Array.getElem?_eq_none (by simpa using h)]
      have : Nat.ble ops.size j = true := Nat.ble_eq_true_of_le (by omega)
      rw [this]
      rfl
  rw [e]
  exact h0
end
end Go.Den
namespace Go.Proofs.YtkdickfiifpblaaGreatDoor.D
open Go Go.Den Go.Proofs
set_option maxRecDepth 100000
variable {w0 : World}
def mx (m : Md) : Nat → AL | 0 => m.xr | 1 => m.xi | 2 => m.xe | 3 => m.xs | _ => m.xx
def RW (m : Md) (k : Nat) (S : St) (y : AL) : Prop := match k with
  | 0 => Row S 9 1 y m.reqs.length (m.reqs.flatMap Rq)
  | 1 => Row S 48 3 y m.imps.length (m.imps.flatMap Im.cells)
  | 2 => Row S 72 4 y m.exps.length (m.exps.flatMap Xp.cells)
  | 3 => Row S 46 3 y m.stmts.length (m.stmts.flatMap Sm.cells)
  | _ => Row S 59 6 y m.exprs.length (m.exprs.flatMap Er.cells)
theorem RW.sub {m : Md} {k : Nat} {S S' : St} {y : AL} (h : RW m k S y) (hs : TokSub S S') : RW m k S' y := by
  unfold RW at *
  split at h <;> exact h.sub hs
theorem RW.lt {m : Md} {k : Nat} {S : St} {y : AL} (h : RW m k S y) {t : Nat} (ht : y.tk = some t) : t < S.toks.length := by
  unfold RW at h
  split at h <;> exact h.lt ht
def nil5 : List AL := [.nilsl, .nilsl, .nilsl, .nilsl, .nilsl]
abbrev y5 (y : Nat → AL) : List AL := [y 0, y 1, y 2, y 3, y 4]
structure CI (m : Md) (S0 : St) (y : Nat → AL) (d : Nat → Bool) (ρ : Rho) (S : St) : Prop where
  bx : S.boxes = S0.boxes ++ [(30, m.cs), (30, bif d 16 then y5 y else nil5)]
  tk : TokLe S0 S
  p1 : ρ 1 = .ptr S0.boxes.length 0
  p2 : ρ 2 = .ptr (S0.boxes.length + 1) 0
  fa : ∀ k, k < 5 → d (3 * k) = true → ρ (3 * k + 3) = .ptr S0.boxes.length k
  lo : ∀ k, k < 5 → d (3 * k + 1) = true → ρ (3 * k + 4) = .one (mx m k)
  ca : ∀ k, k < 5 → d (3 * k + 2) = true → ρ (3 * k + 5) = .one (y k) ∧ RW m k S (y k) ∧ ∀ t, (y k).tk = some t → S0.toks.length ≤ t
  ap : ∀ j k, j < 5 → k < 5 → j ≠ k → d (3 * j + 2) = true → d (3 * k + 2) = true → ∀ t, (y j).tk = some t → (y k).tk ≠ some t
  bu : d 15 = true → ρ 18 = .agg (y5 y)
  dn : d 15 = true → ∀ k, k < 5 → d (3 * k + 2) = true
  ds : d 16 = true → d 15 = true
theorem dd {d : Nat → Bool} {i j : Nat} (h : (d j || j == i) = true) (hne : j ≠ i) : d j = true := by
  rw [Bool.or_eq_true] at h
  rcases h with h | h
  · exact h
  · exact absurd (eq_of_beq h) hne
theorem upd_ne {ρ : Rho} {s j : Nat} {v : AV} (h : j ≠ s) : upd ρ (some s) v j = ρ j := if_neg h
theorem upd_eq {ρ : Rho} {s : Nat} {v : AV} : upd ρ (some s) v s = v := if_pos rfl
theorem d_ne {d : Nat → Bool} {i j : Nat} (h : j ≠ i) : (d j || j == i) = d j := by
  have : (j == i) = false := by simpa using h
  rw [this, Bool.or_false]
section
variable {m : Md} {S0 S : St} {y : Nat → AL} {d : Nat → Bool} {ρ : Rho}
theorem CI.fld {k0 : Nat} (hk : k0 < 5) (h : CI m S0 y d ρ S) : CI m S0 y (fun j => d j || j == 3 * k0) (upd ρ (some (3 * k0 + 3)) (.ptr S0.boxes.length k0)) S := by
  refine ⟨by rw [d_ne (by omega)]; exact h.bx, h.tk, by rw [upd_ne (by omega)]; exact h.p1, by rw [upd_ne (by omega)]; exact h.p2, fun k hk2 hd => ?_, fun k hk2 hd => ?_, fun k hk2 hd => ?_, fun j k hj hk2 hne h1 h2 => h.ap j k hj hk2 hne (dd h1 (by omega)) (dd h2 (by omega)), fun hd => ?_, fun hd k hk2 => ?_, fun hd => ?_⟩
  · by_cases e : k = k0
    · subst e; exact upd_eq
    · rw [upd_ne (by omega)]; exact h.fa k hk2 (dd hd (by omega))
  · rw [upd_ne (by omega)]; exact h.lo k hk2 (dd hd (by omega))
  · rw [upd_ne (by omega)]; exact h.ca k hk2 (dd hd (by omega))
  · rw [upd_ne (by omega)]; exact h.bu (dd hd (by omega))
  · rw [d_ne (by omega)]; exact h.dn (dd hd (by omega)) k hk2
  · rw [d_ne (by omega)]; exact h.ds (dd hd (by omega))
theorem CI.lod {k0 : Nat} (hk : k0 < 5) (h : CI m S0 y d ρ S) : CI m S0 y (fun j => d j || j == 3 * k0 + 1) (upd ρ (some (3 * k0 + 4)) (.one (mx m k0))) S := by
  refine ⟨by rw [d_ne (by omega)]; exact h.bx, h.tk, by rw [upd_ne (by omega)]; exact h.p1, by rw [upd_ne (by omega)]; exact h.p2, fun k hk2 hd => ?_, fun k hk2 hd => ?_, fun k hk2 hd => ?_, fun j k hj hk2 hne h1 h2 => h.ap j k hj hk2 hne (dd h1 (by omega)) (dd h2 (by omega)), fun hd => ?_, fun hd k hk2 => ?_, fun hd => ?_⟩
  · rw [upd_ne (by omega)]; exact h.fa k hk2 (dd hd (by omega))
  · by_cases e : k = k0
    · subst e; exact upd_eq
    · rw [upd_ne (by omega)]; exact h.lo k hk2 (dd hd (by omega))
  · rw [upd_ne (by omega)]; exact h.ca k hk2 (dd hd (by omega))
  · rw [upd_ne (by omega)]; exact h.bu (dd hd (by omega))
  · rw [d_ne (by omega)]; exact h.dn (dd hd (by omega)) k hk2
  · rw [d_ne (by omega)]; exact h.ds (dd hd (by omega))
theorem CI.cll {k0 : Nat} (hk : k0 < 5) (h : CI m S0 y d ρ S) (hd0 : d (3 * k0 + 2) = false) {S' : St} (hE : Ext S S') {z : AL} (hz : RW m k0 S' z) (hn : ∀ t, z.tk = some t → S.toks.length ≤ t) :
    CI m S0 (fun j => if j = k0 then z else y j) (fun j => d j || j == 3 * k0 + 2) (upd ρ (some (3 * k0 + 5)) (.one z)) S' := by
  have n15 : d 15 ≠ true := fun h15 => by rw [h.dn h15 k0 hk] at hd0; cases hd0
  have n16 : d 16 ≠ true := fun h16 => n15 (h.ds h16)
  have e16 : d 16 = false := Bool.eq_false_iff.2 n16
  have hbx := h.bx
  rw [e16] at hbx
  have hlt : ∀ k, k < 5 → d (3 * k + 2) = true → ∀ t, (y k).tk = some t → t < S.toks.length := fun k hk2 hd t ht => (h.ca k hk2 hd).2.1.lt ht
  refine ⟨?_, h.tk.trans hE.2, by rw [upd_ne (by omega)]; exact h.p1, by rw [upd_ne (by omega)]; exact h.p2, fun k hk2 hd => ?_, fun k hk2 hd => ?_, fun k hk2 hd => ?_, fun j k hj hk2 hne h1 h2 t ht => ?_, fun hd => absurd (dd hd (by omega)) n15, fun hd => absurd (dd hd (by omega)) n15, fun hd => absurd (dd hd (by omega)) n16⟩
  · rw [d_ne (by omega), e16]; exact hE.1.trans hbx
  · rw [upd_ne (by omega)]; exact h.fa k hk2 (dd hd (by omega))
  · rw [upd_ne (by omega)]; exact h.lo k hk2 (dd hd (by omega))
  · by_cases e : k = k0
    · subst e
      rw [if_pos rfl]
      exact ⟨upd_eq, hz, fun t ht => Nat.le_trans h.tk.len (hn t ht)⟩
    · rw [if_neg e, upd_ne (by omega)]
      obtain ⟨g1, g2, g3⟩ := h.ca k hk2 (dd hd (by omega))
      exact ⟨g1, g2.sub hE.2.sub, g3⟩
  · by_cases e : j = k0
    · subst e
      rw [if_pos rfl] at ht
      rw [if_neg (by omega)]
      intro hk3
      have := hlt k hk2 (dd h2 (by omega)) t hk3
      have := hn t ht
      omega
    · rw [if_neg e] at ht
      by_cases e2 : k = k0
      · subst e2
        rw [if_pos rfl]
        intro hk3
        have := hlt j hj (dd h1 (by omega)) t ht
        have := hn t hk3
        omega
      · rw [if_neg e2]
        exact h.ap j k hj hk2 hne (dd h1 (by omega)) (dd h2 (by omega)) t ht
theorem CI.bld (h : CI m S0 y d ρ S) (hc : ∀ k, k < 5 → d (3 * k + 2) = true) : CI m S0 y (fun j => d j || j == 15) (upd ρ (some 18) (.agg (y5 y))) S := by
  refine ⟨by rw [d_ne (by omega)]; exact h.bx, h.tk, by rw [upd_ne (by omega)]; exact h.p1, by rw [upd_ne (by omega)]; exact h.p2, fun k hk2 hd => ?_, fun k hk2 hd => ?_, fun k hk2 hd => ?_, fun j k hj hk2 hne h1 h2 => h.ap j k hj hk2 hne (dd h1 (by omega)) (dd h2 (by omega)), fun _ => upd_eq, fun hd k hk2 => ?_, fun hd => ?_⟩
  · rw [upd_ne (by omega)]; exact h.fa k hk2 (dd hd (by omega))
  · rw [upd_ne (by omega)]; exact h.lo k hk2 (dd hd (by omega))
  · rw [upd_ne (by omega)]; exact h.ca k hk2 (dd hd (by omega))
  · rw [d_ne (by omega)]; exact hc k hk2
  · simp
theorem CI.sto (h : CI m S0 y d ρ S) (h15 : d 15 = true) {S' : St} (hS : S' = { S with boxes := S0.boxes ++ [(30, m.cs), (30, y5 y)] }) {v : AV} : CI m S0 y (fun j => d j || j == 16) (upd ρ none v) S' := by
  subst hS
  refine ⟨by simp, ⟨fun t x ht => h.tk.tok t x ht, h.tk.len, h.tk.yng⟩, h.p1, h.p2, fun k hk2 hd => h.fa k hk2 (dd hd (by omega)), fun k hk2 hd => h.lo k hk2 (dd hd (by omega)), fun k hk2 hd => ?_, fun j k hj hk2 hne h1 h2 => h.ap j k hj hk2 hne (dd h1 (by omega)) (dd h2 (by omega)), fun _ => h.bu h15, fun _ k hk2 => ?_, fun _ => ?_⟩
  · obtain ⟨g1, g2, g3⟩ := h.ca k hk2 (dd hd (by omega))
    exact ⟨g1, g2.sub (TokSub.same ⟨rfl, rfl⟩), g3⟩
  · rw [d_ne (by omega)]; exact h.dn h15 k hk2
  · rw [h15, Bool.true_or]
end
end Go.Proofs.YtkdickfiifpblaaGreatDoor.D
namespace Go.Proofs.YtkdickfiifpblaaGreatDoor.D
open Go Go.Den Go.Proofs
set_option maxRecDepth 100000
variable {w0 : World}
def regOps : Code → Array Oper
  | .region _ ops _ => ops
  | _ => #[]
noncomputable def ops27 : Array Oper := regOps (codeOf Tryz.prog 27 [1, 0])
def pos27 : String := "l04_parse.go:518"
theorem ops27_size : ops27.size = 17 := by kernel_rfl
theorem o27_0 : ops27[0]? = some ⟨some 3, .fieldAddr 30 (.tmp 1) 0, 0, pos27, #[], none⟩ := by kernel_rfl
theorem o27_1 : ops27[1]? = some ⟨some 4, .load 24 (.tmp 3), 24, pos27, #[⟨0, .data⟩], none⟩ := by kernel_rfl
theorem o27_2 : ops27[2]? = some ⟨some 5, .call { callee := .value (.func 56), args := #[.tmp 4], argTypes := #[24] }, 24, pos27, #[⟨1, .data⟩], none⟩ := by kernel_rfl
theorem o27_3 : ops27[3]? = some ⟨some 6, .fieldAddr 30 (.tmp 1) 1, 0, pos27, #[], none⟩ := by kernel_rfl
theorem o27_4 : ops27[4]? = some ⟨some 7, .load 25 (.tmp 6), 25, pos27, #[⟨3, .data⟩], none⟩ := by kernel_rfl
theorem o27_5 : ops27[5]? = some ⟨some 8, .call { callee := .value (.func 57), args := #[.tmp 7], argTypes := #[25] }, 25, pos27, #[⟨4, .data⟩, ⟨2, .chain⟩], none⟩ := by kernel_rfl
theorem o27_6 : ops27[6]? = some ⟨some 9, .fieldAddr 30 (.tmp 1) 2, 0, pos27, #[], none⟩ := by kernel_rfl
theorem o27_7 : ops27[7]? = some ⟨some 10, .load 26 (.tmp 9), 26, pos27, #[⟨6, .data⟩], none⟩ := by kernel_rfl
theorem o27_8 : ops27[8]? = some ⟨some 11, .call { callee := .value (.func 58), args := #[.tmp 10], argTypes := #[26] }, 26, pos27, #[⟨7, .data⟩, ⟨5, .chain⟩], none⟩ := by kernel_rfl
theorem o27_9 : ops27[9]? = some ⟨some 12, .fieldAddr 30 (.tmp 1) 3, 0, pos27, #[], none⟩ := by kernel_rfl
theorem o27_10 : ops27[10]? = some ⟨some 13, .load 27 (.tmp 12), 27, pos27, #[⟨9, .data⟩], none⟩ := by kernel_rfl
theorem o27_11 : ops27[11]? = some ⟨some 14, .call { callee := .value (.func 59), args := #[.tmp 13], argTypes := #[27] }, 27, pos27, #[⟨10, .data⟩, ⟨8, .chain⟩], none⟩ := by kernel_rfl
theorem o27_12 : ops27[12]? = some ⟨some 15, .fieldAddr 30 (.tmp 1) 4, 0, pos27, #[], none⟩ := by kernel_rfl
theorem o27_13 : ops27[13]? = some ⟨some 16, .load 28 (.tmp 15), 28, pos27, #[⟨12, .data⟩], none⟩ := by kernel_rfl
theorem o27_14 : ops27[14]? = some ⟨some 17, .call { callee := .value (.func 60), args := #[.tmp 16], argTypes := #[28] }, 28, pos27, #[⟨13, .data⟩, ⟨11, .chain⟩], none⟩ := by kernel_rfl
theorem o27_15 : ops27[15]? = some ⟨some 18, .build 30 #[(0, .tmp 5), (1, .tmp 8), (2, .tmp 11), (3, .tmp 14), (4, .tmp 17)], 30, pos27, #[⟨2, .data⟩, ⟨5, .data⟩, ⟨8, .data⟩, ⟨11, .data⟩, ⟨14, .data⟩], none⟩ := by kernel_rfl
theorem o27_16 : ops27[16]? = some ⟨none, .store 30 (.tmp 2) (.tmp 18), 0, pos27, #[⟨15, .data⟩, ⟨14, .chain⟩, ⟨0, .phase⟩, ⟨1, .phase⟩, ⟨2, .phase⟩, ⟨3, .phase⟩, ⟨4, .phase⟩, ⟨5, .phase⟩, ⟨6, .phase⟩, ⟨7, .phase⟩, ⟨8, .phase⟩, ⟨9, .phase⟩, ⟨10, .phase⟩, ⟨11, .phase⟩, ⟨12, .phase⟩, ⟨13, .phase⟩, ⟨14, .phase⟩, ⟨15, .phase⟩], none⟩ := by kernel_rfl
section
variable {m : Md} {S0 S : St} {y : Nat → AL} {d : Nat → Bool} {ρ : Rho}
noncomputable abbrev I27 (m : Md) (S0 : St) (d : Nat → Bool) (ρ : Rho) (S : St) : Prop := ∃ y, CI m S0 y d ρ S
theorem ev27 {i : Nat} {v : AV} (hi : i < 19) (h : ρ i = v) : (EV 19 ρ)[i]? = some v := by rw [EV_get, if_pos hi, h]
theorem s27_0 (h : CI m S0 y d ρ S) {o : Oper} (ho : o = ⟨some 3, .fieldAddr 30 (.tmp 1) 0, 0, pos27, #[], none⟩) : dOneY Tryz.prog w0 (tabOf Tryz.prog) 19 ops27 o ρ S (I27 m S0 fun j => d j || j == 0) := by
  subst ho
  refine dOneY_val (v := .ptr S0.boxes.length 0) (S' := S) rfl ?_ ⟨y, h.fld (k0 := 0) (by decide)⟩
  show ((((EV 19 ρ)[1]?).bind fun p => (dField (tabOf Tryz.prog) 30 p 0).map fun v => (v, S)).map fun r => Res.val r.1 r.2) = _
  rw [ev27 (by decide) h.p1, Option.bind_some]
  unfold dField
  rw [T30]
  rfl
theorem s27_1 (h : CI m S0 y d ρ S) {o : Oper} (ho : o = ⟨some 4, .load 24 (.tmp 3), 24, pos27, #[⟨0, .data⟩], none⟩) (hd : ∀ e, e ∈ o.after → Region.binds .any e = true → d e.on = true) : dOneY Tryz.prog w0 (tabOf Tryz.prog) 19 ops27 o ρ S (I27 m S0 fun j => d j || j == 1) := by
  subst ho
  have hf := h.fa 0 (by decide) (hd ⟨0, .data⟩ (by simp) rfl)
  refine dOneY_val (v := .one (mx m 0)) (S' := S) rfl ?_ ⟨y, h.lod (k0 := 0) (by decide)⟩
  show ((((EV 19 ρ)[3]?).bind fun p => (dLoad (tabOf Tryz.prog) 24 p S).map fun v => (v, S)).map fun r => Res.val r.1 r.2) = _
  rw [ev27 (by decide) hf, Option.bind_some]
  unfold dLoad
  rw [T24, Option.bind_some]
  show (((((S.boxes)[S0.boxes.length]?).bind _).map _).map _) = _
  rw [h.bx, List.getElem?_append_right (Nat.le_refl _), Nat.sub_self]
  rfl
theorem s27_2 (hm : MV m) (h : CI m S0 y d ρ S) {o : Oper} (ho : o = ⟨some 5, .call { callee := .value (.func 56), args := #[.tmp 4], argTypes := #[24] }, 24, pos27, #[⟨1, .data⟩], none⟩) (hd0 : d 2 = false) (hd : ∀ e, e ∈ o.after → Region.binds .any e = true → d e.on = true) : dOneY Tryz.prog w0 (tabOf Tryz.prog) 19 ops27 o ρ S (I27 m S0 fun j => d j || j == 2) := by
  subst ho
  have hf := h.lo 0 (by decide) (hd ⟨1, .data⟩ (by simp) rfl)
  have hc := hm.cr
  refine dOneY_call (f := 56) (args := [.one (mx m 0)]) rfl ?_ ((Clone24_c (hm.vr) (by omega)).tot w0 S) ?_
  · show ((((EV 19 ρ)[4]?).bind fun v => (some []).map fun vs => v :: vs).map fun vs => Res.call 56 (vs ++ [])) = _
    rw [ev27 (by decide) hf]
    rfl
  · rintro v S' ⟨hE, z, rfl, hz, hn⟩
    exact ⟨_, h.cll (k0 := 0) (by decide) hd0 hE hz hn⟩
theorem s27_3 (h : CI m S0 y d ρ S) {o : Oper} (ho : o = ⟨some 6, .fieldAddr 30 (.tmp 1) 1, 0, pos27, #[], none⟩) : dOneY Tryz.prog w0 (tabOf Tryz.prog) 19 ops27 o ρ S (I27 m S0 fun j => d j || j == 3) := by
  subst ho
  refine dOneY_val (v := .ptr S0.boxes.length 1) (S' := S) rfl ?_ ⟨y, h.fld (k0 := 1) (by decide)⟩
  show ((((EV 19 ρ)[1]?).bind fun p => (dField (tabOf Tryz.prog) 30 p 1).map fun v => (v, S)).map fun r => Res.val r.1 r.2) = _
  rw [ev27 (by decide) h.p1, Option.bind_some]
  unfold dField
  rw [T30]
  rfl
theorem s27_4 (h : CI m S0 y d ρ S) {o : Oper} (ho : o = ⟨some 7, .load 25 (.tmp 6), 25, pos27, #[⟨3, .data⟩], none⟩) (hd : ∀ e, e ∈ o.after → Region.binds .any e = true → d e.on = true) : dOneY Tryz.prog w0 (tabOf Tryz.prog) 19 ops27 o ρ S (I27 m S0 fun j => d j || j == 4) := by
  subst ho
  have hf := h.fa 1 (by decide) (hd ⟨3, .data⟩ (by simp) rfl)
  refine dOneY_val (v := .one (mx m 1)) (S' := S) rfl ?_ ⟨y, h.lod (k0 := 1) (by decide)⟩
  show ((((EV 19 ρ)[6]?).bind fun p => (dLoad (tabOf Tryz.prog) 25 p S).map fun v => (v, S)).map fun r => Res.val r.1 r.2) = _
  rw [ev27 (by decide) hf, Option.bind_some]
  unfold dLoad
  rw [T25, Option.bind_some]
  show (((((S.boxes)[S0.boxes.length]?).bind _).map _).map _) = _
  rw [h.bx, List.getElem?_append_right (Nat.le_refl _), Nat.sub_self]
  rfl
theorem s27_5 (hm : MV m) (h : CI m S0 y d ρ S) {o : Oper} (ho : o = ⟨some 8, .call { callee := .value (.func 57), args := #[.tmp 7], argTypes := #[25] }, 25, pos27, #[⟨4, .data⟩, ⟨2, .chain⟩], none⟩) (hd0 : d 5 = false) (hd : ∀ e, e ∈ o.after → Region.binds .any e = true → d e.on = true) : dOneY Tryz.prog w0 (tabOf Tryz.prog) 19 ops27 o ρ S (I27 m S0 fun j => d j || j == 5) := by
  subst ho
  have hf := h.lo 1 (by decide) (hd ⟨4, .data⟩ (by simp) rfl)
  have hc := hm.ci
  refine dOneY_call (f := 57) (args := [.one (mx m 1)]) rfl ?_ ((Clone25_c (hm.vi) (by omega)).tot w0 S) ?_
  · show ((((EV 19 ρ)[7]?).bind fun v => (some []).map fun vs => v :: vs).map fun vs => Res.call 57 (vs ++ [])) = _
    rw [ev27 (by decide) hf]
    rfl
  · rintro v S' ⟨hE, z, rfl, hz, hn⟩
    exact ⟨_, h.cll (k0 := 1) (by decide) hd0 hE hz hn⟩
theorem s27_6 (h : CI m S0 y d ρ S) {o : Oper} (ho : o = ⟨some 9, .fieldAddr 30 (.tmp 1) 2, 0, pos27, #[], none⟩) : dOneY Tryz.prog w0 (tabOf Tryz.prog) 19 ops27 o ρ S (I27 m S0 fun j => d j || j == 6) := by
  subst ho
  refine dOneY_val (v := .ptr S0.boxes.length 2) (S' := S) rfl ?_ ⟨y, h.fld (k0 := 2) (by decide)⟩
  show ((((EV 19 ρ)[1]?).bind fun p => (dField (tabOf Tryz.prog) 30 p 2).map fun v => (v, S)).map fun r => Res.val r.1 r.2) = _
  rw [ev27 (by decide) h.p1, Option.bind_some]
  unfold dField
  rw [T30]
  rfl
theorem s27_7 (h : CI m S0 y d ρ S) {o : Oper} (ho : o = ⟨some 10, .load 26 (.tmp 9), 26, pos27, #[⟨6, .data⟩], none⟩) (hd : ∀ e, e ∈ o.after → Region.binds .any e = true → d e.on = true) : dOneY Tryz.prog w0 (tabOf Tryz.prog) 19 ops27 o ρ S (I27 m S0 fun j => d j || j == 7) := by
  subst ho
  have hf := h.fa 2 (by decide) (hd ⟨6, .data⟩ (by simp) rfl)
  refine dOneY_val (v := .one (mx m 2)) (S' := S) rfl ?_ ⟨y, h.lod (k0 := 2) (by decide)⟩
  show ((((EV 19 ρ)[9]?).bind fun p => (dLoad (tabOf Tryz.prog) 26 p S).map fun v => (v, S)).map fun r => Res.val r.1 r.2) = _
  rw [ev27 (by decide) hf, Option.bind_some]
  unfold dLoad
  rw [T26, Option.bind_some]
  show (((((S.boxes)[S0.boxes.length]?).bind _).map _).map _) = _
  rw [h.bx, List.getElem?_append_right (Nat.le_refl _), Nat.sub_self]
  rfl
theorem s27_8 (hm : MV m) (h : CI m S0 y d ρ S) {o : Oper} (ho : o = ⟨some 11, .call { callee := .value (.func 58), args := #[.tmp 10], argTypes := #[26] }, 26, pos27, #[⟨7, .data⟩, ⟨5, .chain⟩], none⟩) (hd0 : d 8 = false) (hd : ∀ e, e ∈ o.after → Region.binds .any e = true → d e.on = true) : dOneY Tryz.prog w0 (tabOf Tryz.prog) 19 ops27 o ρ S (I27 m S0 fun j => d j || j == 8) := by
  subst ho
  have hf := h.lo 2 (by decide) (hd ⟨7, .data⟩ (by simp) rfl)
  have hc := hm.ce
  refine dOneY_call (f := 58) (args := [.one (mx m 2)]) rfl ?_ ((Clone26_c (hm.ve) (by omega)).tot w0 S) ?_
  · show ((((EV 19 ρ)[10]?).bind fun v => (some []).map fun vs => v :: vs).map fun vs => Res.call 58 (vs ++ [])) = _
    rw [ev27 (by decide) hf]
    rfl
  · rintro v S' ⟨hE, z, rfl, hz, hn⟩
    exact ⟨_, h.cll (k0 := 2) (by decide) hd0 hE hz hn⟩
theorem s27_9 (h : CI m S0 y d ρ S) {o : Oper} (ho : o = ⟨some 12, .fieldAddr 30 (.tmp 1) 3, 0, pos27, #[], none⟩) : dOneY Tryz.prog w0 (tabOf Tryz.prog) 19 ops27 o ρ S (I27 m S0 fun j => d j || j == 9) := by
  subst ho
  refine dOneY_val (v := .ptr S0.boxes.length 3) (S' := S) rfl ?_ ⟨y, h.fld (k0 := 3) (by decide)⟩
  show ((((EV 19 ρ)[1]?).bind fun p => (dField (tabOf Tryz.prog) 30 p 3).map fun v => (v, S)).map fun r => Res.val r.1 r.2) = _
  rw [ev27 (by decide) h.p1, Option.bind_some]
  unfold dField
  rw [T30]
  rfl
theorem s27_10 (h : CI m S0 y d ρ S) {o : Oper} (ho : o = ⟨some 13, .load 27 (.tmp 12), 27, pos27, #[⟨9, .data⟩], none⟩) (hd : ∀ e, e ∈ o.after → Region.binds .any e = true → d e.on = true) : dOneY Tryz.prog w0 (tabOf Tryz.prog) 19 ops27 o ρ S (I27 m S0 fun j => d j || j == 10) := by
  subst ho
  have hf := h.fa 3 (by decide) (hd ⟨9, .data⟩ (by simp) rfl)
  refine dOneY_val (v := .one (mx m 3)) (S' := S) rfl ?_ ⟨y, h.lod (k0 := 3) (by decide)⟩
  show ((((EV 19 ρ)[12]?).bind fun p => (dLoad (tabOf Tryz.prog) 27 p S).map fun v => (v, S)).map fun r => Res.val r.1 r.2) = _
  rw [ev27 (by decide) hf, Option.bind_some]
  unfold dLoad
  rw [T27, Option.bind_some]
  show (((((S.boxes)[S0.boxes.length]?).bind _).map _).map _) = _
  rw [h.bx, List.getElem?_append_right (Nat.le_refl _), Nat.sub_self]
  rfl
theorem s27_11 (hm : MV m) (h : CI m S0 y d ρ S) {o : Oper} (ho : o = ⟨some 14, .call { callee := .value (.func 59), args := #[.tmp 13], argTypes := #[27] }, 27, pos27, #[⟨10, .data⟩, ⟨8, .chain⟩], none⟩) (hd0 : d 11 = false) (hd : ∀ e, e ∈ o.after → Region.binds .any e = true → d e.on = true) : dOneY Tryz.prog w0 (tabOf Tryz.prog) 19 ops27 o ρ S (I27 m S0 fun j => d j || j == 11) := by
  subst ho
  have hf := h.lo 3 (by decide) (hd ⟨10, .data⟩ (by simp) rfl)
  have hc := hm.cs
  refine dOneY_call (f := 59) (args := [.one (mx m 3)]) rfl ?_ ((Clone27_c (hm.vs) (by omega)).tot w0 S) ?_
  · show ((((EV 19 ρ)[13]?).bind fun v => (some []).map fun vs => v :: vs).map fun vs => Res.call 59 (vs ++ [])) = _
    rw [ev27 (by decide) hf]
    rfl
  · rintro v S' ⟨hE, z, rfl, hz, hn⟩
    exact ⟨_, h.cll (k0 := 3) (by decide) hd0 hE hz hn⟩
theorem s27_12 (h : CI m S0 y d ρ S) {o : Oper} (ho : o = ⟨some 15, .fieldAddr 30 (.tmp 1) 4, 0, pos27, #[], none⟩) : dOneY Tryz.prog w0 (tabOf Tryz.prog) 19 ops27 o ρ S (I27 m S0 fun j => d j || j == 12) := by
  subst ho
  refine dOneY_val (v := .ptr S0.boxes.length 4) (S' := S) rfl ?_ ⟨y, h.fld (k0 := 4) (by decide)⟩
  show ((((EV 19 ρ)[1]?).bind fun p => (dField (tabOf Tryz.prog) 30 p 4).map fun v => (v, S)).map fun r => Res.val r.1 r.2) = _
  rw [ev27 (by decide) h.p1, Option.bind_some]
  unfold dField
  rw [T30]
  rfl
theorem s27_13 (h : CI m S0 y d ρ S) {o : Oper} (ho : o = ⟨some 16, .load 28 (.tmp 15), 28, pos27, #[⟨12, .data⟩], none⟩) (hd : ∀ e, e ∈ o.after → Region.binds .any e = true → d e.on = true) : dOneY Tryz.prog w0 (tabOf Tryz.prog) 19 ops27 o ρ S (I27 m S0 fun j => d j || j == 13) := by
  subst ho
  have hf := h.fa 4 (by decide) (hd ⟨12, .data⟩ (by simp) rfl)
  refine dOneY_val (v := .one (mx m 4)) (S' := S) rfl ?_ ⟨y, h.lod (k0 := 4) (by decide)⟩
  show ((((EV 19 ρ)[15]?).bind fun p => (dLoad (tabOf Tryz.prog) 28 p S).map fun v => (v, S)).map fun r => Res.val r.1 r.2) = _
  rw [ev27 (by decide) hf, Option.bind_some]
  unfold dLoad
  rw [T28, Option.bind_some]
  show (((((S.boxes)[S0.boxes.length]?).bind _).map _).map _) = _
  rw [h.bx, List.getElem?_append_right (Nat.le_refl _), Nat.sub_self]
  rfl
theorem s27_14 (hm : MV m) (h : CI m S0 y d ρ S) {o : Oper} (ho : o = ⟨some 17, .call { callee := .value (.func 60), args := #[.tmp 16], argTypes := #[28] }, 28, pos27, #[⟨13, .data⟩, ⟨11, .chain⟩], none⟩) (hd0 : d 14 = false) (hd : ∀ e, e ∈ o.after → Region.binds .any e = true → d e.on = true) : dOneY Tryz.prog w0 (tabOf Tryz.prog) 19 ops27 o ρ S (I27 m S0 fun j => d j || j == 14) := by
  subst ho
  have hf := h.lo 4 (by decide) (hd ⟨13, .data⟩ (by simp) rfl)
  have hc := hm.cx
  refine dOneY_call (f := 60) (args := [.one (mx m 4)]) rfl ?_ ((Clone28_c (hm.vx) (by omega)).tot w0 S) ?_
  · show ((((EV 19 ρ)[16]?).bind fun v => (some []).map fun vs => v :: vs).map fun vs => Res.call 60 (vs ++ [])) = _
    rw [ev27 (by decide) hf]
    rfl
  · rintro v S' ⟨hE, z, rfl, hz, hn⟩
    exact ⟨_, h.cll (k0 := 4) (by decide) hd0 hE hz hn⟩
theorem s27_15 (h : CI m S0 y d ρ S) {o : Oper} (ho : o = ⟨some 18, .build 30 #[(0, .tmp 5), (1, .tmp 8), (2, .tmp 11), (3, .tmp 14), (4, .tmp 17)], 30, pos27, #[⟨2, .data⟩, ⟨5, .data⟩, ⟨8, .data⟩, ⟨11, .data⟩, ⟨14, .data⟩], none⟩) (hd : ∀ e, e ∈ o.after → Region.binds .any e = true → d e.on = true) : dOneY Tryz.prog w0 (tabOf Tryz.prog) 19 ops27 o ρ S (I27 m S0 fun j => d j || j == 15) := by
  subst ho
  have hc : ∀ k, k < 5 → d (3 * k + 2) = true := fun k hk => by
    obtain rfl | rfl | rfl | rfl | rfl : k = 0 ∨ k = 1 ∨ k = 2 ∨ k = 3 ∨ k = 4 := by omega
    all_goals exact hd ⟨_, .data⟩ (by simp) rfl
  have e0 := ev27 (i := 5) (by decide) (h.ca 0 (by decide) (hc 0 (by decide))).1
  have e1 := ev27 (i := 8) (by decide) (h.ca 1 (by decide) (hc 1 (by decide))).1
  have e2 := ev27 (i := 11) (by decide) (h.ca 2 (by decide) (hc 2 (by decide))).1
  have e3 := ev27 (i := 14) (by decide) (h.ca 3 (by decide) (hc 3 (by decide))).1
  have e4 := ev27 (i := 17) (by decide) (h.ca 4 (by decide) (hc 4 (by decide))).1
  refine dOneY_val (v := .agg (y5 y)) (S' := S) rfl ?_ ⟨y, h.bld hc⟩
  show (((evParts (EV 19 ρ) [(0, .tmp 5), (1, .tmp 8), (2, .tmp 11), (3, .tmp 14), (4, .tmp 17)]).bind fun vs => (dBuild (tabOf Tryz.prog) 30 vs).map fun v => (v, S)).map fun r => Res.val r.1 r.2) = _
  simp only [evParts, ev, e0, e1, e2, e3, e4, Option.bind_some, Option.map_some]
  unfold dBuild
  rw [T30]
  rfl
theorem s27_16 (h : CI m S0 y d ρ S) {o : Oper} (ho : o = ⟨none, .store 30 (.tmp 2) (.tmp 18), 0, pos27, #[⟨15, .data⟩, ⟨14, .chain⟩, ⟨0, .phase⟩, ⟨1, .phase⟩, ⟨2, .phase⟩, ⟨3, .phase⟩, ⟨4, .phase⟩, ⟨5, .phase⟩, ⟨6, .phase⟩, ⟨7, .phase⟩, ⟨8, .phase⟩, ⟨9, .phase⟩, ⟨10, .phase⟩, ⟨11, .phase⟩, ⟨12, .phase⟩, ⟨13, .phase⟩, ⟨14, .phase⟩, ⟨15, .phase⟩], none⟩) (hd0 : d 16 = false) (hd : ∀ e, e ∈ o.after → Region.binds .any e = true → d e.on = true) : dOneY Tryz.prog w0 (tabOf Tryz.prog) 19 ops27 o ρ S (I27 m S0 fun j => d j || j == 16) := by
  subst ho
  have h15 := hd ⟨15, .data⟩ (by simp) rfl
  have hbx := h.bx
  rw [hd0] at hbx
  refine dOneY_val (v := .junk) (S' := { S with boxes := S0.boxes ++ [(30, m.cs), (30, y5 y)] }) rfl ?_ ⟨y, h.sto h15 rfl⟩
  show ((((EV 19 ρ)[2]?).bind fun p => ((EV 19 ρ)[18]?).bind fun x => (dStore (tabOf Tryz.prog) 30 p x S).map fun S' => Res.val .junk S')) = _
  rw [ev27 (by decide) h.p2, ev27 (by decide) (h.bu h15), Option.bind_some, Option.bind_some]
  unfold dStore
  rw [T30, Option.bind_some]
  show (((S.boxes)[S0.boxes.length + 1]?).bind _).map _ = _
  rw [hbx, List.getElem?_append_right (by omega), show S0.boxes.length + 1 - S0.boxes.length = 1 by omega]
  show some (Res.val .junk { S with boxes := (S0.boxes ++ [(30, m.cs), (30, nil5)]).set (S0.boxes.length + 1) (30, y5 y) }) = _
  rw [List.set_append_right _ _ (by omega), show S0.boxes.length + 1 - S0.boxes.length = 1 by omega]
  rfl
end
theorem RW.like {m : Md} {k : Nat} {S : St} {y : AL} (h : RW m k S y) : AL.like .nilsl y = true := by
  unfold RW at h
  split at h <;> obtain ⟨_, ⟨rfl, _⟩ | ⟨_, rfl, _⟩⟩ := h <;> rfl
theorem like5 {m : Md} {n : Nat} {S : St} {y : Nat → AL} (h : ∀ k, k < 5 → RW m k S (y k) ∧ ∀ t, (y k).tk = some t → n ≤ t) : likeVs (tabOf Tryz.prog) [30] [.agg (y5 y)] = true := by
  have h0 := (h 0 (by decide)).1.like
  have h1 := (h 1 (by decide)).1.like
  have h2 := (h 2 (by decide)).1.like
  have h3 := (h 3 (by decide)).1.like
  have h4 := (h 4 (by decide)).1.like
  simp only [likeVs, likeV, T30, likeCells, h0, h1, h2, h3, h4]
  rfl
def rClone (m : Md) (n : Nat) (v : AV) (S : St) : Prop := ∃ y : Nat → AL, v = .agg (y5 y) ∧ (∀ k, k < 5 → RW m k S (y k) ∧ ∀ t, (y k).tk = some t → n ≤ t) ∧ ∀ j k, j < 5 → k < 5 → j ≠ k → ∀ t, (y j).tk = some t → (y k).tk ≠ some t
theorem rClone.sh {m : Md} : ∀ (n : Nat) (v : AV) (S : St), rClone m n v S → ∃ fn vs, Tryz.prog.funcs[27]? = some fn ∧ v = tupOf vs ∧ likeVs (tabOf Tryz.prog) fn.resultTypes.toList vs = true := by
  rintro n v S ⟨y, rfl, h, _⟩
  refine ⟨Tryz.f27, [.agg (y5 y)], by kernel_rfl, rfl, like5 h⟩
theorem rClone.loc {m : Md} : ∀ (n : Nat) (v : AV) (S S' : St), TokSub S S' → rClone m n v S → rClone m n v S' := by
  rintro n v S S' hs ⟨y, h1, h2, h3⟩
  exact ⟨y, h1, fun k hk => ⟨(h2 k hk).1.sub hs, (h2 k hk).2⟩, h3⟩
theorem cloneMod_c {m : Md} (hm : MV m) : CONR 27 [m.av] (rClone m) := by
  refine ⟨fun w0 S => Tot.drop (Tot.of_dwpK (T := tabOf Tryz.prog) hT rfl (fn := Tryz.f27) (c := Tryz.f27.body.get!) (by kernel_rfl) (by kernel_rfl) (by kernel_rfl) (Nat.le_of_ble_eq_true (by kernel_rfl)) ?_), rClone.loc, rClone.sh⟩
  show dwp Tryz.prog w0 (tabOf Tryz.prog) 19 S.boxes.length (codeOf Tryz.prog 27 []) (argRho [m.av]) S _
  refine dOneY_val (v := .ptr S.boxes.length 0) (S' := { S with boxes := S.boxes ++ [(30, m.cs)] }) rfl rfl ?_
  have ha : dAlloc (tabOf Tryz.prog) 30 { S with boxes := S.boxes ++ [(30, m.cs)] } = some (.ptr (S.boxes.length + 1) 0, { S with boxes := S.boxes ++ [(30, m.cs), (30, nil5)] }) := by
    unfold dAlloc
    rw [T30]
    simp [nil5]
  refine dOneY_val (v := .ptr (S.boxes.length + 1) 0) (S' := { S with boxes := S.boxes ++ [(30, m.cs), (30, nil5)] }) rfl (by show ((dAlloc (tabOf Tryz.prog) 30 { S with boxes := S.boxes ++ [(30, m.cs)] }).map fun r => Res.val r.1 r.2) = _; rw [ha]; rfl) ?_
  refine dwp_inv (P := Tryz.prog) (w0 := w0) (T := tabOf Tryz.prog) (n := 19) (id := 1) (nb0 := S.boxes.length) (ops := ops27) hmo (by kernel_rfl) (by kernel_rfl) (I27 m S) ?_ ?_ ?_
  · refine ⟨fun _ => .nilsl, rfl, ⟨fun _ _ h => h, Nat.le_refl _, fun _ h => h⟩, rfl, rfl, fun k hk hd => ?_, fun k hk hd => ?_, fun k hk hd => ?_, fun j k hj hk hne hd => ?_, fun hd => ?_, fun hd => ?_, fun hd => ?_⟩
    all_goals
      rw [ops27_size] at hd
      have := Nat.le_of_ble_eq_true hd
      omega
  · rintro d ρ S' i o ⟨y, h⟩ ho hd0 hd
    have hi := (Array.getElem?_eq_some_iff.1 ho).1
    rw [ops27_size] at hi
    match i, hi with
    | 0, _ => exact s27_0 h (Option.some.inj (ho.symm.trans o27_0))
    | 1, _ => exact s27_1 h (Option.some.inj (ho.symm.trans o27_1)) hd
    | 2, _ => exact s27_2 hm h (Option.some.inj (ho.symm.trans o27_2)) hd0 hd
    | 3, _ => exact s27_3 h (Option.some.inj (ho.symm.trans o27_3))
    | 4, _ => exact s27_4 h (Option.some.inj (ho.symm.trans o27_4)) hd
    | 5, _ => exact s27_5 hm h (Option.some.inj (ho.symm.trans o27_5)) hd0 hd
    | 6, _ => exact s27_6 h (Option.some.inj (ho.symm.trans o27_6))
    | 7, _ => exact s27_7 h (Option.some.inj (ho.symm.trans o27_7)) hd
    | 8, _ => exact s27_8 hm h (Option.some.inj (ho.symm.trans o27_8)) hd0 hd
    | 9, _ => exact s27_9 h (Option.some.inj (ho.symm.trans o27_9))
    | 10, _ => exact s27_10 h (Option.some.inj (ho.symm.trans o27_10)) hd
    | 11, _ => exact s27_11 hm h (Option.some.inj (ho.symm.trans o27_11)) hd0 hd
    | 12, _ => exact s27_12 h (Option.some.inj (ho.symm.trans o27_12))
    | 13, _ => exact s27_13 h (Option.some.inj (ho.symm.trans o27_13)) hd
    | 14, _ => exact s27_14 hm h (Option.some.inj (ho.symm.trans o27_14)) hd0 hd
    | 15, _ => exact s27_15 h (Option.some.inj (ho.symm.trans o27_15)) hd
    | 16, _ => exact s27_16 h (Option.some.inj (ho.symm.trans o27_16)) hd0 hd
  · rintro d ρ S' ⟨y, h⟩ hd
    rw [ops27_size] at hd
    have h16 := hd 16 (by decide)
    have hbx := h.bx
    rw [h16] at hbx
    have hr : dResults (tabOf Tryz.prog) Tryz.f27 (EV 19 ρ) S' = some (.agg (y5 y)) := by
      show (((((EV 19 ρ)[2]?).bind fun p => dLoad (tabOf Tryz.prog) 30 p S').bind fun v => (some []).map fun vs => v :: vs).map _) = _
      rw [ev27 (by decide) h.p2, Option.bind_some]
      unfold dLoad
      rw [T30, Option.bind_some]
      show (((((S'.boxes)[S.boxes.length + 1]?).bind _).bind _).map _) = _
      rw [hbx, List.getElem?_append_right (by omega), show S.boxes.length + 1 - S.boxes.length = 1 by omega]
      rfl
    refine ⟨_, hr, [.agg (y5 y)], { S' with boxes := S.boxes }, [(30, m.cs), (30, y5 y)], ?_, rfl, rfl, rfl, ⟨rfl, h.tk.tok, h.tk.len, h.tk.yng⟩, y, rfl, fun k hk => ?_, fun j k hj hk hne => h.ap j k hj hk hne (hd _ (by omega)) (hd _ (by omega))⟩
    · show S' = { S' with boxes := S.boxes ++ [(30, m.cs), (30, y5 y)] }
      rw [show S.boxes ++ [(30, m.cs), (30, y5 y)] = S'.boxes from hbx.symm]
    · obtain ⟨_, g2, g3⟩ := h.ca k hk (hd _ (by omega))
      exact ⟨g2.sub (TokSub.same ⟨rfl, rfl⟩), g3⟩
end Go.Proofs.YtkdickfiifpblaaGreatDoor.D
namespace Go.Proofs.YtkdickfiifpblaaGreatDoor.D
open Go Go.Den Go.Proofs
set_option maxRecDepth 100000
variable {w0 : World}
theorem clrRW {m : Md} {k : Nat} {S : St} {y : AL} (h : RW m k S y) {tk : Nat} (hne : y.tk ≠ some tk) : y.clr S.has tk = true := by
  unfold RW at h
  split at h
  · exact clrRow PlC.Rq h hne
  · exact clrRow PlC.Im h hne
  · exact clrRow PlC.Xp h hne
  · exact clrRow PlC.Sm h hne
  · exact clrRow PlC.Er h hne
theorem clrYg {α : Type} {c : α → List AL} {sz : Nat} {S : St} {x : AL} {l : List α} (pc : PlC c) (h : Yg c sz S x l) {tk : Nat} (hne : x.tk ≠ some tk) : x.clr S.has tk = true := by
  rcases h with ⟨rfl, _⟩ | ⟨u, m, e, s, rfl, h2, _⟩
  · rfl
  · rw [AL.clr, pc.flat, Bool.and_true, Bool.and_eq_true, Bool.not_eq_true']
    refine ⟨Bool.eq_false_iff.2 fun hb => hne (by have := Nat.eq_of_beq_eq_true hb; rw [AL.tk, this]), ?_⟩
    unfold St.has
    rw [h2]
    rfl
theorem Row.tkd {S : St} {e : TypeId} {sz n : Nat} {x : AL} {xs : List AL} (h : Row S e sz x n xs) : Tkd x := by
  obtain ⟨_, ⟨rfl, _⟩ | ⟨_, rfl, _⟩⟩ := h <;> intro a b hx <;> cases hx
theorem Yg.tkd {α : Type} {c : α → List AL} {sz : Nat} {S : St} {x : AL} {l : List α} (h : Yg c sz S x l) : Tkd x := by
  rcases h with ⟨rfl, _⟩ | ⟨_, _, _, _, rfl, _⟩ <;> intro a b hx <;> cases hx
def trimM (m : Md) (x0 z x2 x3 x4 : AL) : Md := ⟨x0, z, x2, x3, x4, m.reqs, m.imps.filter (fun a => !memB a.loc (setOf (unused m))), m.exps, m.stmts, m.exprs⟩
def rTrim (m : Md) (_ : Nat) (v : AV) (_ : St) : Prop := ∃ x0 z x2 x3 x4, v = (trimM m x0 z x2 x3 x4).av ∧ MT (trimM m x0 z x2 x3 x4)
theorem Vw.like {α : Type} {c : α → List AL} {x : AL} {l : List α} (h : Vw c x l) : AL.like .nilsl x = true := by
  rcases h with ⟨rfl, _⟩ | ⟨_, rfl⟩ <;> rfl
theorem MV.like {m : Md} (h : MV m) : likeVs (tabOf Tryz.prog) [30] [m.av] = true := by
  simp only [likeVs, likeV, T30, likeCells, h.vr.like, h.vi.like, h.ve.like, h.vs.like, h.vx.like]
  rfl
theorem Trim_c {m : Md} (h : MT m) : CONR 7 [m.av] (rTrim m) := by
  refine ConR.of_iso (T' := TY) hTY hmo (nov := cf7) (plans := np) rfl (fun n v S ⟨x0, z, x2, x3, x4, hv, _⟩ => ⟨[v], rfl, by subst hv; rfl⟩) ⟨Tryz.f7, by kernel_rfl, by kernel_rfl, by kernel_rfl⟩ (fun _ _ _ _ _ h => h) (fun n v S ⟨x0, z, x2, x3, x4, hv, hm⟩ => ⟨Tryz.f7, [v], by kernel_rfl, rfl, by subst hv; exact hm.mv.like⟩) (fun w0 n hlt => ?_)
  rw [show m.av = .agg [m.xr, m.xi, m.xe, m.xs, m.xx] from rfl, v7]
  have hm := h.mv
  have c0 := hm.ci
  have hn0 : (iso n).toks.length = n := by simp [iso]
  refine ⟨rfl, _, (cloneMod_c hm).useY (iso n) [(30, m.cs), (30, nil5)], fun x x1 x2 x3 x4 S1 hR => ?_⟩
  obtain ⟨hE1, y, he, hy, hap⟩ := hR
  simp only [AV.agg.injEq, List.cons.injEq, and_true] at he
  obtain ⟨rfl, rfl, rfl, rfl, rfl⟩ := he
  refine ⟨_, (Unused2_c h).useY S1 [(30, m.cs), (30, nil5), (30, y5 y)], fun x5 S2 hR => ?_⟩
  obtain ⟨hE2, r5, he, hr5, hn5⟩ := hR
  cases he
  have hE := hE1.trans hE2
  have ho : S2.old = n := hE.old
  have hr : ∀ k, k < 5 → RW m k S2 (y k) := fun k hk => (hy k hk).1.sub hE2.ext.2.sub
  have hY : ∀ t, t ∈ (y 1).tk.toList → n ≤ t := fun t ht => by
    have := (hy 1 (by decide)).2 t (by simpa using ht)
    omega
  have hlt1 : ∀ t, t ∈ (y 1).tk.toList → t < S1.toks.length := fun t ht => (hy 1 (by decide)).1.lt (by simpa using ht)
  have r1 : Row S2 48 3 (y 1) m.imps.length (m.imps.flatMap Im.cells) := hr 1 (by decide)
  have k0 : ∀ k, k < 5 → k ≠ 1 → ∀ t, t ∈ (y 1).tk.toList → (y k).clr S2.has t = true := fun k hk hne t ht => clrRW (hr k hk) (hap 1 k (by decide) hk (Ne.symm hne) t (by simpa using ht))
  have k5 : ∀ t, t ∈ (y 1).tk.toList → x5.clr S2.has t = true := fun t ht => clrYg PlC.Rq hr5 (fun e => by have := hn5 t e; have := hlt1 t ht; omega)
  have hbx : S2.boxes = [] := hE.ext.1
  have hsl := setOf_len (unused m)
  have hul : (unused m).length ≤ m.imps.length := fm_len _ _ _
  refine ⟨rfl, _, _, toty_useD (T := TY) (dead := [(2, 1)]) (r := fun v S1 => ∃ z, v = .one z ∧ Yg Im.cells 3 S1 z (m.imps.filter fun a => !(fun a : Im => memB a.loc (setOf (unused m))) a) ∧ (∀ t, z.tk = some t → (y 1).tk = some t)) r1.yg.young ?_ (Del28d_t (S := join S2 [(30, m.cs), (30, nil5), (30, [y 0, .undef, y 2, y 3, y 4]), (24, [x5])]) (t := 24) (r1.yg.same ⟨rfl, rfl⟩) (by omega) (fun t ht b hb => ?_) hr5.vw (by omega) (c := S2.boxes.length + 3) ?_) (fun v S S' hs ⟨y, h1, h2, h3⟩ => ⟨y, h1, h2.same hs, h3⟩) (fun v S ⟨y, h1, h2, h3⟩ => ?_), trivial, ⟨h.clear hlt ho hY, ⟨clear_of fun _ _ => rfl, clear_of fun _ _ => rfl, clear_of fun _ _ => rfl, clear_of fun _ _ => rfl, clear_of fun _ _ => rfl, trivial⟩, ⟨clear_of (k0 0 (by decide) (by decide)), clear_of fun _ _ => rfl, clear_of (k0 2 (by decide) (by decide)), clear_of (k0 3 (by decide) (by decide)), clear_of (k0 4 (by decide) (by decide)), trivial⟩, ⟨clear_of k5, trivial⟩, trivial⟩, fun x6 S3 hR => ?_⟩
  · refine ⟨by simp [deadLo, deadB], fun i t cs' hi => ?_⟩
    rw [hbx] at hi ⊢
    rw [List.nil_append] at hi ⊢
    have hi4 := (List.getElem?_eq_some_iff.1 hi).1
    match i, hi4, hi with
    | 0, _, hi => cases hi; exact ⟨_, rfl, rfl, fun j x' hx => .inr hx⟩
    | 1, _, hi => cases hi; exact ⟨_, rfl, rfl, fun j x' hx => .inr hx⟩
    | 2, _, hi =>
      cases hi
      refine ⟨_, rfl, rfl, fun j x' hx => ?_⟩
      match j, hx with
      | 0, hx => exact .inr hx
      | 1, hx => cases hx; exact .inl rfl
      | j + 2, hx => exact .inr hx
    | 3, _, hi => cases hi; exact ⟨_, rfl, rfl, fun j x' hx => .inr hx⟩
  · have ht' : t ∈ (y 1).tk.toList := by simpa using ht
    have hb : b ∈ S2.boxes ++ [(30, m.cs), (30, nil5), (30, [y 0, .undef, y 2, y 3, y 4]), (24, [x5])] := hb
    rw [hbx, List.nil_append] at hb
    simp only [List.mem_cons, List.not_mem_nil, or_false] at hb
    rcases hb with rfl | rfl | rfl | rfl
    · exact h.clrB hlt ho (hY t ht') _ (List.mem_singleton.2 rfl)
    · rfl
    · show clrs S2.has t [y 0, .undef, y 2, y 3, y 4] = true
      simp only [clrs, k0 0 (by decide) (by decide) t ht', k0 2 (by decide) (by decide) t ht', k0 3 (by decide) (by decide) t ht', k0 4 (by decide) (by decide) t ht']
      rfl
    · show clrs S2.has t [x5] = true
      simp only [clrs, k5 t ht']
      rfl
  · show (S2.boxes ++ _)[S2.boxes.length + 3]? = _
    rw [List.getElem?_append_right (by omega), show S2.boxes.length + 3 - S2.boxes.length = 3 by omega]
    rfl
  · subst h1
    obtain ⟨fn, vs, g1, g2, g3⟩ := vsh (f := 28) (fn := Tryz.f28) (by kernel_rfl) (by kernel_rfl) h2.vw
    exact ⟨fn, vs, g1, g2, likeY' g3⟩
  · obtain ⟨hE3, z, he, hz, _⟩ := hR
    cases he
    have q0 : Row S2 9 1 (y 0) m.reqs.length (m.reqs.flatMap Rq) := hr 0 (by decide)
    have q2 : Row S2 72 4 (y 2) m.exps.length (m.exps.flatMap Xp.cells) := hr 2 (by decide)
    have q3 : Row S2 46 3 (y 3) m.stmts.length (m.stmts.flatMap Sm.cells) := hr 3 (by decide)
    have q4 : Row S2 59 6 (y 4) m.exprs.length (m.exprs.flatMap Er.cells) := hr 4 (by decide)
    exact ⟨rfl, y 0, x6, y 2, y 3, y 4, rfl, ⟨⟨q0.vw, hz.vw, q2.vw, q3.vw, q4.vw, hm.cr, Nat.le_trans (List.length_filter_le _ _) c0, hm.ce, hm.cs, hm.cx⟩, Row.tkd q0, Yg.tkd hz, Row.tkd q2, Row.tkd q3, Row.tkd q4⟩⟩
end Go.Proofs.YtkdickfiifpblaaGreatDoor.D
namespace Go.Proofs.YtkdickfiifpblaaGreatDoor.D
open Go Go.Den Go.Proofs
theorem v14 : ∀ (hk : Hk) (c0 : Nat) (n1 : Int) (b2 : Bool) (S : St) (Q : AV->St->Prop),wFn cf14 hk Tryz.prog (tabY Tryz.prog) pl14b false 14 [.ptr c0 0,.one (.i n1),.one (.bool b2)] S Q=(true=true/\∃ R,hk.1 40 [.ptr c0 0,.one (.i n1),.one (.bool b2)] S [(30,n5)] R/\∀ (s : ByteArray) (S1 : St),R (.one (.str s)) S1->∃ R,hk.1 39 [.one (.str s),.one (.bool b2)] S1 [(30,n5)] R/\∀
 (x x_1 x_2 x_3 x_4 : AL) (n : Int) (S1 : St),R (.tup [.agg [x,x_1,x_2,x_3,x_4],.one (.i n)]) S1->∃ R,hk.1 16 [.ptr c0 0,.one (.i 6)] S1 [(30,n5),(30,[x,x_1,x_2,x_3,x_4])] R/\∀ (b : Bool) (S1 : St),R (.one (.bool b)) S1->(b=true->∃ R,hk.1 41 [.ptr c0 0,.one (.i 6)] S1 [(30,n5),(30,[x,x_1,x_2,x_3,x_4])] R/\∀ (n : Int) (S1 : St),R (.one (.i n)) S1->((n == 0)=true->true=true/\(((∃
 R,hk.1 42 [.ptr c0 0,.one (.sl (some S1.toks.length) 3 [.str k33,.str k88,.str k89])] (S1.born (3,9,1)) [(30,n5),(30,[x,x_1,x_2,x_3,x_4])] R/\∀ (s : ByteArray) (S1 : St),R (.one (.str s)) S1->((24=24/\∃ r S',dAppend2 (tabY Tryz.prog) 24 x (.sl (some S1.toks.length) 1 [.str s]) (S1.born (1,9,1))=some (r,S')/\(true=true/\Q (.agg [r,x_1,x_2,x_3,x_4])
 S')/\True)/\True)/\True)/\True)/\True)/\(((∃ R,hk.1 42 [.ptr c0 0,.one (.sl (some S1.toks.length) 3 [.str k33,.str k88,.str k89])] (S1.born (3,9,1)) [(30,n5),(30,[x,x_1,x_2,x_3,x_4])] R/\∀ (s : ByteArray) (S1 : St),R (.one (.str s)) S1->((24=24/\∃ r S',dAppend2 (tabY Tryz.prog) 24 x (.sl (some S1.toks.length) 1 [.str s]) (S1.born (1,9,1))=some (r,S')/\(true=true/\Q (.agg
 [r,x_1,x_2,x_3,x_4]) S')/\True)/\True)/\True)/\True)/\(∃ R,hk.1 42 [.ptr c0 0,.one (.sl (some S1.toks.length) 3 [.str k33,.str k88,.str k89])] (S1.born (3,9,1)) [(30,n5),(30,[x,x_1,x_2,x_3,x_4])] R/\∀ (s : ByteArray) (S1 : St),R (.one (.str s)) S1->(((24=24/\∃ r S',dAppend2 (tabY Tryz.prog) 24 x (.sl (some S1.toks.length) 1 [.str s]) (S1.born (1,9,1))=some (r,S')/\(true=true/\Q
 (.agg [r,x_1,x_2,x_3,x_4]) S')/\True)/\True)/\True)/\(((24=24/\∃ r S',dAppend2 (tabY Tryz.prog) 24 x (.sl (some S1.toks.length) 1 [.str s]) (S1.born (1,9,1))=some (r,S')/\(true=true/\Q (.agg [r,x_1,x_2,x_3,x_4]) S')/\True)/\True)/\True)/\True)/\True)/\True)/\((n == 0)=false->((n == 1)=true->true=true/\(((∃ R,hk.1 42 [.ptr c0 0,.one (.sl (some S1.toks.length) 3 [.str k90,.str
 k12,.str k_])] (S1.born (3,9,1)) [(30,n5),(30,[x,x_1,x_2,x_3,x_4])] R/\∀ (s : ByteArray) (S1 : St),R (.one (.str s)) S1->((25=25/\∃ r S',dAppend2 (tabY Tryz.prog) 25 x_1 (.sl (some S1.toks.length) 1 [.str k33,.str k31,.str s]) (S1.born (3,48,3))=some (r,S')/\(true=true/\Q (.agg [x,r,x_2,x_3,x_4]) S')/\True)/\True)/\True)/\True)/\True)/\(((∃ R,hk.1 42 [.ptr c0 0,.one (.sl (some
 S1.toks.length) 3 [.str k90,.str k12,.str k_])] (S1.born (3,9,1)) [(30,n5),(30,[x,x_1,x_2,x_3,x_4])] R/\∀ (s : ByteArray) (S1 : St),R (.one (.str s)) S1->((25=25/\∃ r S',dAppend2 (tabY Tryz.prog) 25 x_1 (.sl (some S1.toks.length) 1 [.str k33,.str k31,.str s]) (S1.born (3,48,3))=some (r,S')/\(true=true/\Q (.agg [x,r,x_2,x_3,x_4]) S')/\True)/\True)/\True)/\True)/\(∃ R,hk.1 42
 [.ptr c0 0,.one (.sl (some S1.toks.length) 3 [.str k90,.str k12,.str k_])] (S1.born (3,9,1)) [(30,n5),(30,[x,x_1,x_2,x_3,x_4])] R/\∀ (s : ByteArray) (S1 : St),R (.one (.str s)) S1->(((25=25/\∃ r S',dAppend2 (tabY Tryz.prog) 25 x_1 (.sl (some S1.toks.length) 1 [.str k33,.str k31,.str s]) (S1.born (3,48,3))=some (r,S')/\(true=true/\Q (.agg [x,r,x_2,x_3,x_4])
 S')/\True)/\True)/\True)/\(((25=25/\∃ r S',dAppend2 (tabY Tryz.prog) 25 x_1 (.sl (some S1.toks.length) 1 [.str k33,.str k31,.str s]) (S1.born (3,48,3))=some (r,S')/\(true=true/\Q (.agg [x,r,x_2,x_3,x_4]) S')/\True)/\True)/\True)/\True)/\True)/\True)/\((n == 1)=false->((n == 2)=true->true=true/\((∃ R,hk.1 41 [.ptr c0 0,.one (.i 5)] S1 [(30,n5),(30,[x,x_1,x_2,x_3,x_4])] R/\∀ (n :
 Int) (S1 : St),R (.one (.i n)) S1->((∃ R,hk.1 42 [.ptr c0 0,.one (.sl (some S1.toks.length) 2 [.str k_,.str k33])] (S1.born (2,9,1)) [(30,n5),(30,[x,x_1,x_2,x_3,x_4])] R/\∀ (s : ByteArray) (S1 : St),R (.one (.str s)) S1->((26=26/\∃ r S',dAppend2 (tabY Tryz.prog) 26 x_2 (.sl (some S1.toks.length) 1 [.i n,.str k90,.str k90,.str s]) (S1.born (4,72,4))=some (r,S')/\(true=true/\Q
 (.agg [x,x_1,r,x_3,x_4]) S')/\True)/\True)/\True)/\True)/\True)/\((∃ R,hk.1 41 [.ptr c0 0,.one (.i 5)] (S1.born (2,9,1)) [(30,n5),(30,[x,x_1,x_2,x_3,x_4])] R/\∀ (n : Int) (S1_1 : St),R (.one (.i n)) S1_1->(∃ R,hk.1 42 [.ptr c0 0,.one (.sl (some S1.toks.length) 2 [.str k_,.str k33])] S1_1 [(30,n5),(30,[x,x_1,x_2,x_3,x_4])] R/\∀ (s : ByteArray) (S1 : St),R (.one (.str s))
 S1->((26=26/\∃ r S',dAppend2 (tabY Tryz.prog) 26 x_2 (.sl (some S1.toks.length) 1 [.i n,.str k90,.str k90,.str s]) (S1.born (4,72,4))=some (r,S')/\(true=true/\Q (.agg [x,x_1,r,x_3,x_4]) S')/\True)/\True)/\True)/\True)/\True)/\True)/\(∃ R,hk.1 41 [.ptr c0 0,.one (.i 5)] S1 [(30,n5),(30,[x,x_1,x_2,x_3,x_4])] R/\∀ (n : Int) (S1 : St),R (.one (.i n)) S1->(((∃ R,hk.1 42 [.ptr c0
 0,.one (.sl (some S1.toks.length) 2 [.str k_,.str k33])] (S1.born (2,9,1)) [(30,n5),(30,[x,x_1,x_2,x_3,x_4])] R/\∀ (s : ByteArray) (S1 : St),R (.one (.str s)) S1->((26=26/\∃ r S',dAppend2 (tabY Tryz.prog) 26 x_2 (.sl (some S1.toks.length) 1 [.i n,.str k90,.str k90,.str s]) (S1.born (4,72,4))=some (r,S')/\(true=true/\Q (.agg [x,x_1,r,x_3,x_4])
 S')/\True)/\True)/\True)/\True)/\True)/\(((∃ R,hk.1 42 [.ptr c0 0,.one (.sl (some S1.toks.length) 2 [.str k_,.str k33])] (S1.born (2,9,1)) [(30,n5),(30,[x,x_1,x_2,x_3,x_4])] R/\∀ (s : ByteArray) (S1 : St),R (.one (.str s)) S1->((26=26/\∃ r S',dAppend2 (tabY Tryz.prog) 26 x_2 (.sl (some S1.toks.length) 1 [.i n,.str k90,.str k90,.str s]) (S1.born (4,72,4))=some
 (r,S')/\(true=true/\Q (.agg [x,x_1,r,x_3,x_4]) S')/\True)/\True)/\True)/\True)/\(∃ R,hk.1 42 [.ptr c0 0,.one (.sl (some S1.toks.length) 2 [.str k_,.str k33])] (S1.born (2,9,1)) [(30,n5),(30,[x,x_1,x_2,x_3,x_4])] R/\∀ (s : ByteArray) (S1 : St),R (.one (.str s)) S1->(((26=26/\∃ r S',dAppend2 (tabY Tryz.prog) 26 x_2 (.sl (some S1.toks.length) 1 [.i n,.str k90,.str k90,.str s])
 (S1.born (4,72,4))=some (r,S')/\(true=true/\Q (.agg [x,x_1,r,x_3,x_4]) S')/\True)/\True)/\True)/\(((26=26/\∃ r S',dAppend2 (tabY Tryz.prog) 26 x_2 (.sl (some S1.toks.length) 1 [.i n,.str k90,.str k90,.str s]) (S1.born (4,72,4))=some (r,S')/\(true=true/\Q (.agg [x,x_1,r,x_3,x_4]) S')/\True)/\True)/\True)/\True)/\True)/\True)/\(((∃ R,hk.1 41 [.ptr c0 0,.one (.i 5)] (S1.born
 (2,9,1)) [(30,n5),(30,[x,x_1,x_2,x_3,x_4])] R/\∀ (n : Int) (S1_1 : St),R (.one (.i n)) S1_1->(∃ R,hk.1 42 [.ptr c0 0,.one (.sl (some S1.toks.length) 2 [.str k_,.str k33])] S1_1 [(30,n5),(30,[x,x_1,x_2,x_3,x_4])] R/\∀ (s : ByteArray) (S1 : St),R (.one (.str s)) S1->((26=26/\∃ r S',dAppend2 (tabY Tryz.prog) 26 x_2 (.sl (some S1.toks.length) 1 [.i n,.str k90,.str k90,.str s])
 (S1.born (4,72,4))=some (r,S')/\(true=true/\Q (.agg [x,x_1,r,x_3,x_4]) S')/\True)/\True)/\True)/\True)/\True)/\(∃ R,hk.1 41 [.ptr c0 0,.one (.i 5)] (S1.born (2,9,1)) [(30,n5),(30,[x,x_1,x_2,x_3,x_4])] R/\∀ (n : Int) (S1_1 : St),R (.one (.i n)) S1_1->((∃ R,hk.1 42 [.ptr c0 0,.one (.sl (some S1.toks.length) 2 [.str k_,.str k33])] S1_1 [(30,n5),(30,[x,x_1,x_2,x_3,x_4])] R/\∀ (s :
 ByteArray) (S1 : St),R (.one (.str s)) S1->((26=26/\∃ r S',dAppend2 (tabY Tryz.prog) 26 x_2 (.sl (some S1.toks.length) 1 [.i n,.str k90,.str k90,.str s]) (S1.born (4,72,4))=some (r,S')/\(true=true/\Q (.agg [x,x_1,r,x_3,x_4]) S')/\True)/\True)/\True)/\True)/\(∃ R,hk.1 42 [.ptr c0 0,.one (.sl (some S1.toks.length) 2 [.str k_,.str k33])] S1_1 [(30,n5),(30,[x,x_1,x_2,x_3,x_4])]
 R/\∀ (s : ByteArray) (S1 : St),R (.one (.str s)) S1->(((26=26/\∃ r S',dAppend2 (tabY Tryz.prog) 26 x_2 (.sl (some S1.toks.length) 1 [.i n,.str k90,.str k90,.str s]) (S1.born (4,72,4))=some (r,S')/\(true=true/\Q (.agg [x,x_1,r,x_3,x_4]) S')/\True)/\True)/\True)/\(((26=26/\∃ r S',dAppend2 (tabY Tryz.prog) 26 x_2 (.sl (some S1.toks.length) 1 [.i n,.str k90,.str k90,.str s])
 (S1.born (4,72,4))=some (r,S')/\(true=true/\Q (.agg [x,x_1,r,x_3,x_4]) S')/\True)/\True)/\True)/\True)/\True)/\True)/\True)/\((n == 2)=false->((n == 3)=true->true=true/\((∃ R,hk.1 41 [.ptr c0 0,.one (.i 8)] S1 [(30,n5),(30,[x,x_1,x_2,x_3,x_4])] R/\∀ (n : Int) (S1 : St),R (.one (.i n)) S1->(∃ R,hk.1 41 [.ptr c0 0,.one (.i 5)] S1 [(30,n5),(30,[x,x_1,x_2,x_3,x_4])] R/\∀ (n_1 :
 Int) (S1 : St),R (.one (.i n_1)) S1->in64 (n_1 - 1)/\((27=27/\∃ r S',dAppend2 (tabY Tryz.prog) 27 x_3 (.sl (some S1.toks.length) 1 [.i n,.str k90,.i (n_1 - 1)]) (S1.born (3,46,3))=some (r,S')/\(true=true/\Q (.agg [x,x_1,x_2,r,x_4]) S')/\True)/\True)/\True)/\True)/\True)/\(∃ R,hk.1 41 [.ptr c0 0,.one (.i 8)] S1 [(30,n5),(30,[x,x_1,x_2,x_3,x_4])] R/\∀ (n : Int) (S1 : St),R (.one
 (.i n)) S1->((∃ R,hk.1 41 [.ptr c0 0,.one (.i 5)] S1 [(30,n5),(30,[x,x_1,x_2,x_3,x_4])] R/\∀ (n_1 : Int) (S1 : St),R (.one (.i n_1)) S1->in64 (n_1 - 1)/\((27=27/\∃ r S',dAppend2 (tabY Tryz.prog) 27 x_3 (.sl (some S1.toks.length) 1 [.i n,.str k90,.i (n_1 - 1)]) (S1.born (3,46,3))=some (r,S')/\(true=true/\Q (.agg [x,x_1,x_2,r,x_4]) S')/\True)/\True)/\True)/\True)/\(∃ R,hk.1 41
 [.ptr c0 0,.one (.i 5)] S1 [(30,n5),(30,[x,x_1,x_2,x_3,x_4])] R/\∀ (n_1 : Int) (S1 : St),R (.one (.i n_1)) S1->in64 (n_1 - 1)/\(((27=27/\∃ r S',dAppend2 (tabY Tryz.prog) 27 x_3 (.sl (some S1.toks.length) 1 [.i n,.str k90,.i (n_1 - 1)]) (S1.born (3,46,3))=some (r,S')/\(true=true/\Q (.agg [x,x_1,x_2,r,x_4]) S')/\True)/\True)/\True)/\(((27=27/\∃ r S',dAppend2 (tabY Tryz.prog) 27
 x_3 (.sl (some S1.toks.length) 1 [.i n,.str k90,.i (n_1 - 1)]) (S1.born (3,46,3))=some (r,S')/\(true=true/\Q (.agg [x,x_1,x_2,r,x_4]) S')/\True)/\True)/\True)/\True)/\True)/\True)/\((n == 3)=false->((n == 4)=true->true=true/\((∃ R,hk.1 41 [.ptr c0 0,.one (.i 9)] S1 [(30,n5),(30,[x,x_1,x_2,x_3,x_4])] R/\∀ (n : Int) (S1 : St),R (.one (.i n)) S1->(∃ R,hk.1 41 [.ptr c0 0,.one (.i
 3)] S1 [(30,n5),(30,[x,x_1,x_2,x_3,x_4])] R/\∀ (n_1 : Int) (S1 : St),R (.one (.i n_1)) S1->(∃ R,hk.1 41 [.ptr c0 0,.one (.i 3)] S1 [(30,n5),(30,[x,x_1,x_2,x_3,x_4])] R/\∀ (n_2 : Int) (S1 : St),R (.one (.i n_2)) S1->((28=28/\∃ r S',dAppend2 (tabY Tryz.prog) 28 x_4 (.sl (some S1.toks.length) 1 [.i n,.i 0,.str k_,.str k_,.i n_1,.i n_2]) (S1.born (6,59,6))=some
 (r,S')/\(true=true/\Q (.agg [x,x_1,x_2,x_3,r]) S')/\True)/\True)/\True)/\True)/\True)/\True)/\(∃ R,hk.1 41 [.ptr c0 0,.one (.i 9)] S1 [(30,n5),(30,[x,x_1,x_2,x_3,x_4])] R/\∀ (n : Int) (S1 : St),R (.one (.i n)) S1->((∃ R,hk.1 41 [.ptr c0 0,.one (.i 3)] S1 [(30,n5),(30,[x,x_1,x_2,x_3,x_4])] R/\∀ (n_1 : Int) (S1 : St),R (.one (.i n_1)) S1->(∃ R,hk.1 41 [.ptr c0 0,.one (.i 3)] S1
 [(30,n5),(30,[x,x_1,x_2,x_3,x_4])] R/\∀ (n_2 : Int) (S1 : St),R (.one (.i n_2)) S1->((28=28/\∃ r S',dAppend2 (tabY Tryz.prog) 28 x_4 (.sl (some S1.toks.length) 1 [.i n,.i 0,.str k_,.str k_,.i n_1,.i n_2]) (S1.born (6,59,6))=some (r,S')/\(true=true/\Q (.agg [x,x_1,x_2,x_3,r]) S')/\True)/\True)/\True)/\True)/\True)/\(∃ R,hk.1 41 [.ptr c0 0,.one (.i 3)] S1
 [(30,n5),(30,[x,x_1,x_2,x_3,x_4])] R/\∀ (n_1 : Int) (S1 : St),R (.one (.i n_1)) S1->((∃ R,hk.1 41 [.ptr c0 0,.one (.i 3)] S1 [(30,n5),(30,[x,x_1,x_2,x_3,x_4])] R/\∀ (n_2 : Int) (S1 : St),R (.one (.i n_2)) S1->((28=28/\∃ r S',dAppend2 (tabY Tryz.prog) 28 x_4 (.sl (some S1.toks.length) 1 [.i n,.i 0,.str k_,.str k_,.i n_1,.i n_2]) (S1.born (6,59,6))=some (r,S')/\(true=true/\Q
 (.agg [x,x_1,x_2,x_3,r]) S')/\True)/\True)/\True)/\True)/\(∃ R,hk.1 41 [.ptr c0 0,.one (.i 3)] S1 [(30,n5),(30,[x,x_1,x_2,x_3,x_4])] R/\∀ (n_2 : Int) (S1 : St),R (.one (.i n_2)) S1->(((28=28/\∃ r S',dAppend2 (tabY Tryz.prog) 28 x_4 (.sl (some S1.toks.length) 1 [.i n,.i 0,.str k_,.str k_,.i n_1,.i n_2]) (S1.born (6,59,6))=some (r,S')/\(true=true/\Q (.agg [x,x_1,x_2,x_3,r])
 S')/\True)/\True)/\True)/\(((28=28/\∃ r S',dAppend2 (tabY Tryz.prog) 28 x_4 (.sl (some S1.toks.length) 1 [.i n,.i 0,.str k_,.str k_,.i n_1,.i n_2]) (S1.born (6,59,6))=some (r,S')/\(true=true/\Q (.agg [x,x_1,x_2,x_3,r]) S')/\True)/\True)/\True)/\True)/\True)/\True)/\True)/\((n == 4)=false->∃ n,x_4.len?=some n/\(decide ((↑n : Int) > 0)=true->true=true/\((∃ n,x_4.len?=some n/\(∃
 R,hk.1 41 [.ptr c0 0,.one (.i (↑n : Int))] S1 [(30,n5),(30,[x,x_1,x_2,x_3,x_4])] R/\∀ (n : Int) (S1 : St),R (.one (.i n)) S1->(∃ R,hk.1 41 [.ptr c0 0,.one (.i 4)] S1 [(30,n5),(30,[x,x_1,x_2,x_3,x_4])] R/\∀ (n_1 : Int) (S1 : St),R (.one (.i n_1)) S1->(∃ tk len xs,x_4=.sl (some tk) len xs/\0<=n/\n < (↑len : Int)/\((1=1/\∃ m e s,S1.tok tk=some (m,e,s)/\List.Mem tk
 S1.young/\n.toNat * 6 + 1 + 1<=m/\true=true/\true=true/\Q (.agg [AL.put S1.has tk (n.toNat * 6 + 1) [.i n_1] x,AL.put S1.has tk (n.toNat * 6 + 1) [.i n_1] x_1,AL.put S1.has tk (n.toNat * 6 + 1) [.i n_1] x_2,AL.put S1.has tk (n.toNat * 6 + 1) [.i n_1] x_3,AL.put S1.has tk (n.toNat * 6 + 1) [.i n_1] x_4]) (S1.put tk (n.toNat * 6 + 1) [.i
 n_1]))/\True)/\True)/\True)/\True)/\True)/\True)/\(∃ n,x_4.len?=some n/\((∃ R,hk.1 41 [.ptr c0 0,.one (.i (↑n : Int))] S1 [(30,n5),(30,[x,x_1,x_2,x_3,x_4])] R/\∀ (n : Int) (S1 : St),R (.one (.i n)) S1->(∃ R,hk.1 41 [.ptr c0 0,.one (.i 4)] S1 [(30,n5),(30,[x,x_1,x_2,x_3,x_4])] R/\∀ (n_1 : Int) (S1 : St),R (.one (.i n_1)) S1->(∃ tk len xs,x_4=.sl (some tk) len xs/\0<=n/\n < (↑len
 : Int)/\((1=1/\∃ m e s,S1.tok tk=some (m,e,s)/\List.Mem tk S1.young/\n.toNat * 6 + 1 + 1<=m/\true=true/\true=true/\Q (.agg [AL.put S1.has tk (n.toNat * 6 + 1) [.i n_1] x,AL.put S1.has tk (n.toNat * 6 + 1) [.i n_1] x_1,AL.put S1.has tk (n.toNat * 6 + 1) [.i n_1] x_2,AL.put S1.has tk (n.toNat * 6 + 1) [.i n_1] x_3,AL.put S1.has tk (n.toNat * 6 + 1) [.i n_1] x_4]) (S1.put tk
 (n.toNat * 6 + 1) [.i n_1]))/\True)/\True)/\True)/\True)/\True)/\(∃ R,hk.1 41 [.ptr c0 0,.one (.i (↑n : Int))] S1 [(30,n5),(30,[x,x_1,x_2,x_3,x_4])] R/\∀ (n : Int) (S1 : St),R (.one (.i n)) S1->((∃ R,hk.1 41 [.ptr c0 0,.one (.i 4)] S1 [(30,n5),(30,[x,x_1,x_2,x_3,x_4])] R/\∀ (n_1 : Int) (S1 : St),R (.one (.i n_1)) S1->(∃ tk len xs,x_4=.sl (some tk) len xs/\0<=n/\n < (↑len :
 Int)/\((1=1/\∃ m e s,S1.tok tk=some (m,e,s)/\List.Mem tk S1.young/\n.toNat * 6 + 1 + 1<=m/\true=true/\true=true/\Q (.agg [AL.put S1.has tk (n.toNat * 6 + 1) [.i n_1] x,AL.put S1.has tk (n.toNat * 6 + 1) [.i n_1] x_1,AL.put S1.has tk (n.toNat * 6 + 1) [.i n_1] x_2,AL.put S1.has tk (n.toNat * 6 + 1) [.i n_1] x_3,AL.put S1.has tk (n.toNat * 6 + 1) [.i n_1] x_4]) (S1.put tk
 (n.toNat * 6 + 1) [.i n_1]))/\True)/\True)/\True)/\True)/\(∃ R,hk.1 41 [.ptr c0 0,.one (.i 4)] S1 [(30,n5),(30,[x,x_1,x_2,x_3,x_4])] R/\∀ (n_1 : Int) (S1 : St),R (.one (.i n_1)) S1->((∃ tk len xs,x_4=.sl (some tk) len xs/\0<=n/\n < (↑len : Int)/\((1=1/\∃ m e s,S1.tok tk=some (m,e,s)/\List.Mem tk S1.young/\n.toNat * 6 + 1 + 1<=m/\true=true/\true=true/\Q (.agg [AL.put S1.has tk
 (n.toNat * 6 + 1) [.i n_1] x,AL.put S1.has tk (n.toNat * 6 + 1) [.i n_1] x_1,AL.put S1.has tk (n.toNat * 6 + 1) [.i n_1] x_2,AL.put S1.has tk (n.toNat * 6 + 1) [.i n_1] x_3,AL.put S1.has tk (n.toNat * 6 + 1) [.i n_1] x_4]) (S1.put tk (n.toNat * 6 + 1) [.i n_1]))/\True)/\True)/\True)/\True)/\True)/\True)/\True)/\(decide ((↑n : Int) > 0)=false->true=true/\Q (.agg
 [x,x_1,x_2,x_3,x_4]) S1)))))))/\(b=false->true=true/\Q (.agg [x,x_1,x_2,x_3,x_4])
 S1))
 := by intros; kernel_rfl
end Go.Proofs.YtkdickfiifpblaaGreatDoor.D
namespace Go.Proofs.YtkdickfiifpblaaGreatDoor.D
open Go Go.Den Go.Proofs
theorem v68 : ∀ (hk : Hk) (c0 : Nat) (S : St) (Q : AV->St->Prop),wFn false hk Tryz.prog (tabOf Tryz.prog) Proofs.YtkdickfiifpblaaGreatDoor.D.pl68 false 68 [.ptr c0 0] S Q=(true=true/\∃ bx,S.boxes[c0]?=some bx/\(∃ x,likeCells [.i 0] [x]=true/\(List.drop 2 bx.snd)[0]?=some x)/\∀ (n : Int),(List.drop 2 bx.snd)[0]?=some (.i n)->∃ S',dStore (tabOf Tryz.prog) 3 (.ptr c0 2) (.one (.i
 (IntKind.i64.wrap (IntKind.i64.wrap (n * 6364136223846793005) + 1442695040888963407)))) S=some S'/\true=true/\(∃ bx,S'.boxes[c0]?=some bx/\(∃ x,likeCells [.i 0] [x]=true/\(List.drop 2 bx.snd)[0]?=some x)/\∀ (n : Int),(List.drop 2 bx.snd)[0]?=some (.i n)->(∃ bx,S'.boxes[c0]?=some bx/\(∃ x,likeCells [.i 0] [x]=true/\(List.drop 2 bx.snd)[0]?=some x)/\∀ (n_1 : Int),(List.drop 2
 bx.snd)[0]?=some (.i n_1)->true=true/\(∃ bx,S'.boxes[c0]?=some bx/\(∃ x,likeCells [.i 0] [x]=true/\(List.drop 1 bx.snd)[0]?=some x)/\∀ (n_2 : Int),(List.drop 1 bx.snd)[0]?=some (.i n_2)->(∃ bx,S'.boxes[c0]?=some bx/\(∃ x,true=true/\(List.drop 0 bx.snd)[0]?=some x)/\∀ (x : AL),(List.drop 0 bx.snd)[0]?=some x->∃ n_3,x.len?=some n_3/\(decide (n_2 < (↑n_3 :
 Int))=true->true=true/\(∃ bx,S'.boxes[c0]?=some bx/\(∃ x,true=true/\(List.drop 0 bx.snd)[0]?=some x)/\∀ (x : AL),(List.drop 0 bx.snd)[0]?=some x->(∃ bx,S'.boxes[c0]?=some bx/\(∃ x,likeCells [.i 0] [x]=true/\(List.drop 1 bx.snd)[0]?=some x)/\∀ (n_4 : Int),(List.drop 1 bx.snd)[0]?=some (.i n_4)->∃ tok n_5 xs,x=.sl tok n_5 xs/\0<=n_4/\n_4 < (↑n_5 : Int)/\((∃ x,likeCells [.int .u8
 0] [x]=true/\(List.drop (n_4.toNat * 1) xs)[0]?=some x)/\∀ (n_6 : Int),(List.drop (n_4.toNat * 1) xs)[0]?=some (.int .u8 n_6)->(∃ bx,S'.boxes[c0]?=some bx/\(∃ x,likeCells [.i 0] [x]=true/\(List.drop 1 bx.snd)[0]?=some x)/\∀ (n_7 : Int),(List.drop 1 bx.snd)[0]?=some (.i n_7)->∃ S'_1,dStore (tabOf Tryz.prog) 3 (.ptr c0 1) (.one (.i (IntKind.i64.wrap (n_7 + 1)))) S'=some
 S'_1/\true=true/\Q (.one (.i (IntKind.i64.wrap (↑(BitVec.ofInt 64 (IntKind.i64.wrap (IntKind.i64.wrap (↑(BitVec.ofInt 64 (IntKind.i64.wrap (↑(BitVec.ofInt 64 (n.fdiv 8589934592) ^^^ BitVec.ofInt 64 (n_1.fdiv 35184372088832)).toNat : Int)) &&& BitVec.ofInt 64 255).toNat : Int) + IntKind.i64.wrap n_6)) &&& BitVec.ofInt 64 255).toNat : Int)))) S'_1)/\True)/\True)/\True)/\(∃
 bx,S'.boxes[c0]?=some bx/\(∃ x,likeCells [.i 0] [x]=true/\(List.drop 1 bx.snd)[0]?=some x)/\∀ (n_4 : Int),(List.drop 1 bx.snd)[0]?=some (.i n_4)->(∃ bx,S'.boxes[c0]?=some bx/\(∃ x,true=true/\(List.drop 0 bx.snd)[0]?=some x)/\∀ (x : AL),(List.drop 0 bx.snd)[0]?=some x->∃ tok n_5 xs,x=.sl tok n_5 xs/\0<=n_4/\n_4 < (↑n_5 : Int)/\((∃ x,likeCells [.int .u8 0] [x]=true/\(List.drop
 (n_4.toNat * 1) xs)[0]?=some x)/\∀ (n_6 : Int),(List.drop (n_4.toNat * 1) xs)[0]?=some (.int .u8 n_6)->(∃ bx,S'.boxes[c0]?=some bx/\(∃ x,likeCells [.i 0] [x]=true/\(List.drop 1 bx.snd)[0]?=some x)/\∀ (n_7 : Int),(List.drop 1 bx.snd)[0]?=some (.i n_7)->∃ S'_1,dStore (tabOf Tryz.prog) 3 (.ptr c0 1) (.one (.i (IntKind.i64.wrap (n_7 + 1)))) S'=some S'_1/\true=true/\Q (.one (.i
 (IntKind.i64.wrap (↑(BitVec.ofInt 64 (IntKind.i64.wrap (IntKind.i64.wrap (↑(BitVec.ofInt 64 (IntKind.i64.wrap (↑(BitVec.ofInt 64 (n.fdiv 8589934592) ^^^ BitVec.ofInt 64 (n_1.fdiv 35184372088832)).toNat : Int)) &&& BitVec.ofInt 64 255).toNat : Int) + IntKind.i64.wrap n_6)) &&& BitVec.ofInt 64 255).toNat : Int)))) S'_1)/\True)/\True)/\True)/\True)/\(decide (n_2 < (↑n_3 :
 Int))=false->true=true/\Q (.one (.i (IntKind.i64.wrap (↑(BitVec.ofInt 64 (IntKind.i64.wrap (↑(BitVec.ofInt 64 (n.fdiv 8589934592) ^^^ BitVec.ofInt 64 (n_1.fdiv 35184372088832)).toNat : Int)) &&& BitVec.ofInt 64 255).toNat : Int)))) S'))/\True)/\(∃ bx,S'.boxes[c0]?=some bx/\(∃ x,true=true/\(List.drop 0 bx.snd)[0]?=some x)/\∀ (x : AL),(List.drop 0 bx.snd)[0]?=some x->∃
 n_2,x.len?=some n_2/\(∃ bx,S'.boxes[c0]?=some bx/\(∃ x,likeCells [.i 0] [x]=true/\(List.drop 1 bx.snd)[0]?=some x)/\∀ (n_3 : Int),(List.drop 1 bx.snd)[0]?=some (.i n_3)->(decide (n_3 < (↑n_2 : Int))=true->true=true/\(∃ bx,S'.boxes[c0]?=some bx/\(∃ x,true=true/\(List.drop 0 bx.snd)[0]?=some x)/\∀ (x : AL),(List.drop 0 bx.snd)[0]?=some x->(∃ bx,S'.boxes[c0]?=some bx/\(∃
 x,likeCells [.i 0] [x]=true/\(List.drop 1 bx.snd)[0]?=some x)/\∀ (n_4 : Int),(List.drop 1 bx.snd)[0]?=some (.i n_4)->∃ tok n_5 xs,x=.sl tok n_5 xs/\0<=n_4/\n_4 < (↑n_5 : Int)/\((∃ x,likeCells [.int .u8 0] [x]=true/\(List.drop (n_4.toNat * 1) xs)[0]?=some x)/\∀ (n_6 : Int),(List.drop (n_4.toNat * 1) xs)[0]?=some (.int .u8 n_6)->(∃ bx,S'.boxes[c0]?=some bx/\(∃ x,likeCells [.i 0]
 [x]=true/\(List.drop 1 bx.snd)[0]?=some x)/\∀ (n_7 : Int),(List.drop 1 bx.snd)[0]?=some (.i n_7)->∃ S'_1,dStore (tabOf Tryz.prog) 3 (.ptr c0 1) (.one (.i (IntKind.i64.wrap (n_7 + 1)))) S'=some S'_1/\true=true/\Q (.one (.i (IntKind.i64.wrap (↑(BitVec.ofInt 64 (IntKind.i64.wrap (IntKind.i64.wrap (↑(BitVec.ofInt 64 (IntKind.i64.wrap (↑(BitVec.ofInt 64 (n.fdiv 8589934592) ^^^
 BitVec.ofInt 64 (n_1.fdiv 35184372088832)).toNat : Int)) &&& BitVec.ofInt 64 255).toNat : Int) + IntKind.i64.wrap n_6)) &&& BitVec.ofInt 64 255).toNat : Int)))) S'_1)/\True)/\True)/\True)/\(∃ bx,S'.boxes[c0]?=some bx/\(∃ x,likeCells [.i 0] [x]=true/\(List.drop 1 bx.snd)[0]?=some x)/\∀ (n_4 : Int),(List.drop 1 bx.snd)[0]?=some (.i n_4)->(∃ bx,S'.boxes[c0]?=some bx/\(∃
 x,true=true/\(List.drop 0 bx.snd)[0]?=some x)/\∀ (x : AL),(List.drop 0 bx.snd)[0]?=some x->∃ tok n_5 xs,x=.sl tok n_5 xs/\0<=n_4/\n_4 < (↑n_5 : Int)/\((∃ x,likeCells [.int .u8 0] [x]=true/\(List.drop (n_4.toNat * 1) xs)[0]?=some x)/\∀ (n_6 : Int),(List.drop (n_4.toNat * 1) xs)[0]?=some (.int .u8 n_6)->(∃ bx,S'.boxes[c0]?=some bx/\(∃ x,likeCells [.i 0] [x]=true/\(List.drop 1
 bx.snd)[0]?=some x)/\∀ (n_7 : Int),(List.drop 1 bx.snd)[0]?=some (.i n_7)->∃ S'_1,dStore (tabOf Tryz.prog) 3 (.ptr c0 1) (.one (.i (IntKind.i64.wrap (n_7 + 1)))) S'=some S'_1/\true=true/\Q (.one (.i (IntKind.i64.wrap (↑(BitVec.ofInt 64 (IntKind.i64.wrap (IntKind.i64.wrap (↑(BitVec.ofInt 64 (IntKind.i64.wrap (↑(BitVec.ofInt 64 (n.fdiv 8589934592) ^^^ BitVec.ofInt 64 (n_1.fdiv
 35184372088832)).toNat : Int)) &&& BitVec.ofInt 64 255).toNat : Int) + IntKind.i64.wrap n_6)) &&& BitVec.ofInt 64 255).toNat : Int)))) S'_1)/\True)/\True)/\True)/\True)/\(decide (n_3 < (↑n_2 : Int))=false->true=true/\Q (.one (.i (IntKind.i64.wrap (↑(BitVec.ofInt 64 (IntKind.i64.wrap (↑(BitVec.ofInt 64 (n.fdiv 8589934592) ^^^ BitVec.ofInt 64 (n_1.fdiv 35184372088832)).toNat :
 Int)) &&& BitVec.ofInt 64 255).toNat : Int)))) S'))/\True)/\True)/\True)/\(∃ bx,S'.boxes[c0]?=some bx/\(∃ x,likeCells [.i 0] [x]=true/\(List.drop 2 bx.snd)[0]?=some x)/\∀ (n : Int),(List.drop 2 bx.snd)[0]?=some (.i n)->(∃ bx,S'.boxes[c0]?=some bx/\(∃ x,likeCells [.i 0] [x]=true/\(List.drop 2 bx.snd)[0]?=some x)/\∀ (n_1 : Int),(List.drop 2 bx.snd)[0]?=some (.i
 n_1)->true=true/\(∃ bx,S'.boxes[c0]?=some bx/\(∃ x,likeCells [.i 0] [x]=true/\(List.drop 1 bx.snd)[0]?=some x)/\∀ (n_2 : Int),(List.drop 1 bx.snd)[0]?=some (.i n_2)->(∃ bx,S'.boxes[c0]?=some bx/\(∃ x,true=true/\(List.drop 0 bx.snd)[0]?=some x)/\∀ (x : AL),(List.drop 0 bx.snd)[0]?=some x->∃ n_3,x.len?=some n_3/\(decide (n_2 < (↑n_3 : Int))=true->true=true/\(∃
 bx,S'.boxes[c0]?=some bx/\(∃ x,true=true/\(List.drop 0 bx.snd)[0]?=some x)/\∀ (x : AL),(List.drop 0 bx.snd)[0]?=some x->(∃ bx,S'.boxes[c0]?=some bx/\(∃ x,likeCells [.i 0] [x]=true/\(List.drop 1 bx.snd)[0]?=some x)/\∀ (n_4 : Int),(List.drop 1 bx.snd)[0]?=some (.i n_4)->∃ tok n_5 xs,x=.sl tok n_5 xs/\0<=n_4/\n_4 < (↑n_5 : Int)/\((∃ x,likeCells [.int .u8 0] [x]=true/\(List.drop
 (n_4.toNat * 1) xs)[0]?=some x)/\∀ (n_6 : Int),(List.drop (n_4.toNat * 1) xs)[0]?=some (.int .u8 n_6)->(∃ bx,S'.boxes[c0]?=some bx/\(∃ x,likeCells [.i 0] [x]=true/\(List.drop 1 bx.snd)[0]?=some x)/\∀ (n_7 : Int),(List.drop 1 bx.snd)[0]?=some (.i n_7)->∃ S'_1,dStore (tabOf Tryz.prog) 3 (.ptr c0 1) (.one (.i (IntKind.i64.wrap (n_7 + 1)))) S'=some S'_1/\true=true/\Q (.one (.i
 (IntKind.i64.wrap (↑(BitVec.ofInt 64 (IntKind.i64.wrap (IntKind.i64.wrap (↑(BitVec.ofInt 64 (IntKind.i64.wrap (↑(BitVec.ofInt 64 (n_1.fdiv 8589934592) ^^^ BitVec.ofInt 64 (n.fdiv 35184372088832)).toNat : Int)) &&& BitVec.ofInt 64 255).toNat : Int) + IntKind.i64.wrap n_6)) &&& BitVec.ofInt 64 255).toNat : Int)))) S'_1)/\True)/\True)/\True)/\(∃ bx,S'.boxes[c0]?=some bx/\(∃
 x,likeCells [.i 0] [x]=true/\(List.drop 1 bx.snd)[0]?=some x)/\∀ (n_4 : Int),(List.drop 1 bx.snd)[0]?=some (.i n_4)->(∃ bx,S'.boxes[c0]?=some bx/\(∃ x,true=true/\(List.drop 0 bx.snd)[0]?=some x)/\∀ (x : AL),(List.drop 0 bx.snd)[0]?=some x->∃ tok n_5 xs,x=.sl tok n_5 xs/\0<=n_4/\n_4 < (↑n_5 : Int)/\((∃ x,likeCells [.int .u8 0] [x]=true/\(List.drop (n_4.toNat * 1) xs)[0]?=some
 x)/\∀ (n_6 : Int),(List.drop (n_4.toNat * 1) xs)[0]?=some (.int .u8 n_6)->(∃ bx,S'.boxes[c0]?=some bx/\(∃ x,likeCells [.i 0] [x]=true/\(List.drop 1 bx.snd)[0]?=some x)/\∀ (n_7 : Int),(List.drop 1 bx.snd)[0]?=some (.i n_7)->∃ S'_1,dStore (tabOf Tryz.prog) 3 (.ptr c0 1) (.one (.i (IntKind.i64.wrap (n_7 + 1)))) S'=some S'_1/\true=true/\Q (.one (.i (IntKind.i64.wrap (↑(BitVec.ofInt
 64 (IntKind.i64.wrap (IntKind.i64.wrap (↑(BitVec.ofInt 64 (IntKind.i64.wrap (↑(BitVec.ofInt 64 (n_1.fdiv 8589934592) ^^^ BitVec.ofInt 64 (n.fdiv 35184372088832)).toNat : Int)) &&& BitVec.ofInt 64 255).toNat : Int) + IntKind.i64.wrap n_6)) &&& BitVec.ofInt 64 255).toNat : Int)))) S'_1)/\True)/\True)/\True)/\True)/\(decide (n_2 < (↑n_3 : Int))=false->true=true/\Q (.one (.i
 (IntKind.i64.wrap (↑(BitVec.ofInt 64 (IntKind.i64.wrap (↑(BitVec.ofInt 64 (n_1.fdiv 8589934592) ^^^ BitVec.ofInt 64 (n.fdiv 35184372088832)).toNat : Int)) &&& BitVec.ofInt 64 255).toNat : Int)))) S'))/\True)/\(∃ bx,S'.boxes[c0]?=some bx/\(∃ x,true=true/\(List.drop 0 bx.snd)[0]?=some x)/\∀ (x : AL),(List.drop 0 bx.snd)[0]?=some x->∃ n_2,x.len?=some n_2/\(∃ bx,S'.boxes[c0]?=some
 bx/\(∃ x,likeCells [.i 0] [x]=true/\(List.drop 1 bx.snd)[0]?=some x)/\∀ (n_3 : Int),(List.drop 1 bx.snd)[0]?=some (.i n_3)->(decide (n_3 < (↑n_2 : Int))=true->true=true/\(∃ bx,S'.boxes[c0]?=some bx/\(∃ x,true=true/\(List.drop 0 bx.snd)[0]?=some x)/\∀ (x : AL),(List.drop 0 bx.snd)[0]?=some x->(∃ bx,S'.boxes[c0]?=some bx/\(∃ x,likeCells [.i 0] [x]=true/\(List.drop 1
 bx.snd)[0]?=some x)/\∀ (n_4 : Int),(List.drop 1 bx.snd)[0]?=some (.i n_4)->∃ tok n_5 xs,x=.sl tok n_5 xs/\0<=n_4/\n_4 < (↑n_5 : Int)/\((∃ x,likeCells [.int .u8 0] [x]=true/\(List.drop (n_4.toNat * 1) xs)[0]?=some x)/\∀ (n_6 : Int),(List.drop (n_4.toNat * 1) xs)[0]?=some (.int .u8 n_6)->(∃ bx,S'.boxes[c0]?=some bx/\(∃ x,likeCells [.i 0] [x]=true/\(List.drop 1 bx.snd)[0]?=some
 x)/\∀ (n_7 : Int),(List.drop 1 bx.snd)[0]?=some (.i n_7)->∃ S'_1,dStore (tabOf Tryz.prog) 3 (.ptr c0 1) (.one (.i (IntKind.i64.wrap (n_7 + 1)))) S'=some S'_1/\true=true/\Q (.one (.i (IntKind.i64.wrap (↑(BitVec.ofInt 64 (IntKind.i64.wrap (IntKind.i64.wrap (↑(BitVec.ofInt 64 (IntKind.i64.wrap (↑(BitVec.ofInt 64 (n_1.fdiv 8589934592) ^^^ BitVec.ofInt 64 (n.fdiv
 35184372088832)).toNat : Int)) &&& BitVec.ofInt 64 255).toNat : Int) + IntKind.i64.wrap n_6)) &&& BitVec.ofInt 64 255).toNat : Int)))) S'_1)/\True)/\True)/\True)/\(∃ bx,S'.boxes[c0]?=some bx/\(∃ x,likeCells [.i 0] [x]=true/\(List.drop 1 bx.snd)[0]?=some x)/\∀ (n_4 : Int),(List.drop 1 bx.snd)[0]?=some (.i n_4)->(∃ bx,S'.boxes[c0]?=some bx/\(∃ x,true=true/\(List.drop 0
 bx.snd)[0]?=some x)/\∀ (x : AL),(List.drop 0 bx.snd)[0]?=some x->∃ tok n_5 xs,x=.sl tok n_5 xs/\0<=n_4/\n_4 < (↑n_5 : Int)/\((∃ x,likeCells [.int .u8 0] [x]=true/\(List.drop (n_4.toNat * 1) xs)[0]?=some x)/\∀ (n_6 : Int),(List.drop (n_4.toNat * 1) xs)[0]?=some (.int .u8 n_6)->(∃ bx,S'.boxes[c0]?=some bx/\(∃ x,likeCells [.i 0] [x]=true/\(List.drop 1 bx.snd)[0]?=some x)/\∀ (n_7 :
 Int),(List.drop 1 bx.snd)[0]?=some (.i n_7)->∃ S'_1,dStore (tabOf Tryz.prog) 3 (.ptr c0 1) (.one (.i (IntKind.i64.wrap (n_7 + 1)))) S'=some S'_1/\true=true/\Q (.one (.i (IntKind.i64.wrap (↑(BitVec.ofInt 64 (IntKind.i64.wrap (IntKind.i64.wrap (↑(BitVec.ofInt 64 (IntKind.i64.wrap (↑(BitVec.ofInt 64 (n_1.fdiv 8589934592) ^^^ BitVec.ofInt 64 (n.fdiv 35184372088832)).toNat : Int))
 &&& BitVec.ofInt 64 255).toNat : Int) + IntKind.i64.wrap n_6)) &&& BitVec.ofInt 64 255).toNat : Int)))) S'_1)/\True)/\True)/\True)/\True)/\(decide (n_3 < (↑n_2 : Int))=false->true=true/\Q (.one (.i (IntKind.i64.wrap (↑(BitVec.ofInt 64 (IntKind.i64.wrap (↑(BitVec.ofInt 64 (n_1.fdiv 8589934592) ^^^ BitVec.ofInt 64 (n.fdiv 35184372088832)).toNat : Int)) &&& BitVec.ofInt 64
 255).toNat : Int))))
 S'))/\True)/\True)/\True)/\True)
 := by intros; kernel_rfl
theorem v13 : ∀ (hk : Hk) (plans : Nat->Plan) (x0 : AL) (S : St) (Q : AV->St->Prop),wFn true hk Tryz.prog (tabOf Tryz.prog) plans true 13 [.one x0] S Q=(true=true/\∃ n,x0.len?=some n/\in64 (10101 + (↑n : Int))/\hk.2 32 (codeOf Tryz.prog 13 [1,1,0,1,0,0]) [.blk 0,.seq (codeOf Tryz.prog 13 [1,1,1])] (wEnd (tabOf Tryz.prog) Tryz.f13 true S.boxes.length Q) [(4,.v (.one (.i
 0))),(3,.v (.one (.i (10101 + (↑n : Int))))),(7,.v (.one (.i (10101 + (↑n : Int))))),(6,.v (.one (.i (↑n : Int)))),(5,.v (.one x0)),(2,.v .nilp),(0,.v (.one x0))] S
 [])
 := by intros; kernel_rfl
theorem b13_0 : ∀ (hk : Hk) (plans : Nat->Plan) (x0 : AL) (n4 n3 : Int) (S : St) (K : QW),wCode true hk Tryz.prog (tabOf Tryz.prog) 32 plans 1000 (codeOf Tryz.prog 13 [1,1,0,1,0,0]) [] (fun e env S L => K e (restr [4,3,2,0] env) S L) [(4,.v (.one (.i n4))),(3,.v (.one (.i n3))),(2,.v .nilp),(0,.v (.one x0))] S []=∃ n,x0.len?=some n/\(decide (n4 < (↑n : Int))=true->(decide (n4 <
 4000)=true->in64 (n3 * 131)/\∃ tok n xs,x0=.sl tok n xs/\0<=n4/\n4 < (↑n : Int)/\(∃ x,likeCells [.int .u8 0] [x]=true/\(List.drop (n4.toNat * 1) xs)[0]?=some x)/\∀ (n : Int),(List.drop (n4.toNat * 1) xs)[0]?=some (.int .u8 n)->in64 n/\in64 (n3 * 131 + n)/\in64 (n3 * 131 + n + 7)/\in64 (n4 + 1)/\K .normal [(4,.v (.one (.i (n4 + 1)))),(3,.v (.one (.i (IntKind.i64.wrap
 (↑(BitVec.ofInt 64 (n3 * 131 + n + 7) &&& BitVec.ofInt 64 1073741823).toNat : Int))))),(2,.v .nilp),(0,.v (.one x0))] S [])/\(decide (n4 < 4000)=false->K (.exit 0) [(4,.v (.one (.i n4))),(3,.v (.one (.i n3))),(2,.v .nilp),(0,.v (.one x0))] S []))/\(decide (n4 < (↑n : Int))=false->K (.exit 0) [(4,.v (.one (.i n4))),(3,.v (.one (.i n3))),(2,.v .nilp),(0,.v (.one x0))] S
 [])
 := by intros; kernel_rfl
theorem x13_0 : ∀ (hk : Hk) (plans : Nat->Plan) (x0 : AL) (S : St) (Q : AV->St->Prop) (n4 n3 : Int) (S_1 : St),wCode.wEx true hk Tryz.prog (tabOf Tryz.prog) 32 plans 1000 (.exit 0) [.blk 0,.seq (codeOf Tryz.prog 13 [1,1,1])] (wEnd (tabOf Tryz.prog) Tryz.f13 true S.boxes.length Q) [(4,.v (.one (.i n4))),(3,.v (.one (.i n3))),(2,.v .nilp),(0,.v (.one x0))] S_1 []=Q (.ptr
 (S.boxes.length + 0) 0) (St.mk (S_1.boxes++[(65,[x0,.i 0,.i n3])]) S_1.toks S_1.young
 S_1.old)
 := by intros; kernel_rfl
theorem v41 : ∀ (hk : Hk) (plans : Nat->Plan) (c0 : Nat) (n1 : Int) (S : St) (Q : AV->St->Prop),wFn true hk Tryz.prog (tabOf Tryz.prog) plans false 41 [.ptr c0 0,.one (.i n1)] S Q=(true=true/\(decide (n1<=0)=true->true=true/\Q (.one (.i 0)) S)/\(decide (n1<=0)=false->(decide (n1<=256)=true->∃ R,hk.1 68 [.ptr c0 0] S [] R/\∀ (n : Int) (S1 : St),R (.one (.i n)) S1->n1 ≠
 0/\true=true/\Q (.one (.i (n.tmod n1))) S1)/\(decide (n1<=256)=false->∃ R,hk.1 68 [.ptr c0 0] S [] R/\∀ (n : Int) (S1 : St),R (.one (.i n)) S1->∃ R,hk.1 68 [.ptr c0 0] S1 [] R/\∀ (n_1 : Int) (S1 : St),R (.one (.i n_1)) S1->∃ R,hk.1 68 [.ptr c0 0] S1 [] R/\∀ (n_2 : Int) (S1 : St),R (.one (.i n_2)) S1->∃ R,hk.1 68 [.ptr c0 0] S1 [] R/\∀ (n_3 : Int) (S1 : St),R (.one (.i n_3))
 S1->in64 (n * 16777216)/\in64 (n_1 * 65536)/\in64 (n * 16777216 + n_1 * 65536)/\in64 (n_2 * 256)/\in64 (n * 16777216 + n_1 * 65536 + n_2 * 256)/\in64 (n * 16777216 + n_1 * 65536 + n_2 * 256 + n_3)/\n1 ≠ 0/\true=true/\Q (.one (.i ((n * 16777216 + n_1 * 65536 + n_2 * 256 + n_3).tmod n1)))
 S1)))
 := by intros; kernel_rfl
theorem v16 : ∀ (hk : Hk) (plans : Nat->Plan) (c0 : Nat) (n1 : Int) (S : St) (Q : AV->St->Prop),wFn true hk Tryz.prog (tabOf Tryz.prog) plans false 16 [.ptr c0 0,.one (.i n1)] S Q=(true=true/\∃ R,hk.1 41 [.ptr c0 0,.one (.i n1)] S [] R/\∀ (n : Int) (S1 : St),R (.one (.i n)) S1->true=true/\Q (.one (.bool (n == 0))) S1)
 := by intros; kernel_rfl
theorem v42 : ∀ (hk : Hk) (plans : Nat->Plan) (c0 : Nat) (x1 : AL) (S : St) (Q : AV->St->Prop),wFn true hk Tryz.prog (tabOf Tryz.prog) plans false 42 [.ptr c0 0,.one x1] S Q=(true=true/\∃ n,x1.len?=some n/\∃ R,hk.1 41 [.ptr c0 0,.one (.i (↑n : Int))] S [] R/\∀ (n : Int) (S1 : St),R (.one (.i n)) S1->∃ tok n_1 xs,x1=.sl tok n_1 xs/\0<=n/\n < (↑n_1 : Int)/\(∃ x,likeCells [.str
 k_] [x]=true/\(List.drop (n.toNat * 1) xs)[0]?=some x)/\∀ (s : ByteArray),(List.drop (n.toNat * 1) xs)[0]?=some (AL.str s)->true=true/\Q (.one (.str s))
 S1)
 := by intros; kernel_rfl
theorem v15 : ∀ (hk : Hk) (plans : Nat->Plan) (x0 : AL) (n1 : Int) (S : St) (Q : AV->St->Prop),wFn true hk Tryz.prog (tabOf Tryz.prog) plans false 15 [.one x0,.one (.i n1)] S Q=(true=true/\∃ n,x0.len?=some n/\(20 : Int) ≠ 0/\in64 ((↑n : Int).tdiv 20)/\in64 (2 + (↑n : Int).tdiv 20)/\(decide (2 + (↑n : Int).tdiv 20 > n1)=true->true=true/\Q (.one (.i n1)) S)/\(decide (2 + (↑n :
 Int).tdiv 20 > n1)=false->true=true/\Q (.one (.i (2 + (↑n : Int).tdiv 20)))
 S))
 := by intros; kernel_rfl
theorem v86 : ∀ (hk : Hk) (plans : Nat->Plan) (c0 : Nat) (n1 : Int) (S : St) (Q : AV->St->Prop),wFn true hk Tryz.prog (tabOf Tryz.prog) plans false 86 [.ptr c0 0,.one (.i n1)] S Q=(true=true/\∃ R,hk.1 41 [.ptr c0 0,.one (.i 4)] (S.born (0,5,1)) [] R/\∀ (n : Int) (S1 : St),R (.one (.i n)) S1->in64 (n1 + 1)/\∃ R,hk.1 41 [.ptr c0 0,.one (.i (n1 + 1))] S1 [] R/\∀ (n_1 : Int) (S1 :
 St),R (.one (.i n_1)) S1->hk.2 38 (codeOf Tryz.prog 86 [1,1,1,0,1,0,0]) [.blk 0,.seq (codeOf Tryz.prog 86 [1,1,1,1])] (wEnd (tabOf Tryz.prog) Tryz.f86 false S.boxes.length Q) [(7,.v (.one (.i n_1))),(15,.v (.one (.i n_1))),(14,.v (.one (.i (n1 + 1)))),(13,.v (.one (.i n1))),(12,.v (.ptr c0 0)),(6,.v (.one (.i n))),(11,.v (.one (.i n))),(10,.v (.ptr c0 0)),(5,.v (.one (.sl (some
 S.toks.length) 0 []))),(9,.v (.one (.sl (some S.toks.length) 0 []))),(4,.v (.one (.str k_))),(0,.v (.ptr c0 0)),(1,.v (.one (.i n1)))] S1
 [])
 := by intros; kernel_rfl
theorem b86_0 : ∀ (hk : Hk) (plans : Nat->Plan) (c0 : Nat) (n n7 : Int) (x5 : AL) (S : St) (K : QW),wCode true hk Tryz.prog (tabOf Tryz.prog) 38 plans 1000 (codeOf Tryz.prog 86 [1,1,1,0,1,0,0]) [] (fun e env S L => K e (restr [7,6,5,4,0] env) S L) [(7,.v (.one (.i n7))),(6,.v (.one (.i n))),(5,.v (.one x5)),(4,.v (.one (.str k_))),(0,.v (.ptr c0 0))] S []=((decide (n7 >
 0)=true->∃ R,hk.1 68 [.ptr c0 0] S [] R/\∀ (n_1 : Int) (S1 : St),R (.one (.i n_1)) S1->((n == 1)=true->(2 : Int) ≠ 0/\((n == 2)=true->(4 : Int) ≠ 0/\in64 (97 + (n_1.tmod 2).tmod 4)/\22=22/\∃ r S',dAppend2 (tabOf Tryz.prog) 22 x5 (.sl (some S1.toks.length) 1 [.int .u8 (IntKind.u8.wrap (97 + (n_1.tmod 2).tmod 4))]) (S1.born (1,5,1))=some (r,S')/\in64 (n7 - 1)/\K .normal [(7,.v
 (.one (.i (n7 - 1)))),(6,.v (.one (.i n))),(5,.v (.one r)),(4,.v (.one (.str k_))),(0,.v (.ptr c0 0))] S' [])/\((n == 2)=false->22=22/\∃ r S',dAppend2 (tabOf Tryz.prog) 22 x5 (.sl (some S1.toks.length) 1 [.int .u8 (IntKind.u8.wrap (n_1.tmod 2))]) (S1.born (1,5,1))=some (r,S')/\in64 (n7 - 1)/\K .normal [(7,.v (.one (.i (n7 - 1)))),(6,.v (.one (.i n))),(5,.v (.one r)),(4,.v (.one
 (.str k_))),(0,.v (.ptr c0 0))] S' []))/\((n == 1)=false->((n == 2)=true->(4 : Int) ≠ 0/\in64 (97 + n_1.tmod 4)/\22=22/\∃ r S',dAppend2 (tabOf Tryz.prog) 22 x5 (.sl (some S1.toks.length) 1 [.int .u8 (IntKind.u8.wrap (97 + n_1.tmod 4))]) (S1.born (1,5,1))=some (r,S')/\in64 (n7 - 1)/\K .normal [(7,.v (.one (.i (n7 - 1)))),(6,.v (.one (.i n))),(5,.v (.one r)),(4,.v (.one (.str
 k_))),(0,.v (.ptr c0 0))] S' [])/\((n == 2)=false->22=22/\∃ r S',dAppend2 (tabOf Tryz.prog) 22 x5 (.sl (some S1.toks.length) 1 [.int .u8 (IntKind.u8.wrap n_1)]) (S1.born (1,5,1))=some (r,S')/\in64 (n7 - 1)/\K .normal [(7,.v (.one (.i (n7 - 1)))),(6,.v (.one (.i n))),(5,.v (.one r)),(4,.v (.one (.str k_))),(0,.v (.ptr c0 0))] S' [])))/\(decide (n7 > 0)=false->K (.exit 0) [(7,.v
 (.one (.i n7))),(6,.v (.one (.i n))),(5,.v (.one x5)),(4,.v (.one (.str k_))),(0,.v (.ptr c0 0))] S
 []))
 := by intros; kernel_rfl
theorem x86_0 : ∀ (hk : Hk) (plans : Nat->Plan) (c0 : Nat) (S : St) (Q : AV->St->Prop) (n n7 : Int) (x5 : AL) (S_1 : St),wCode.wEx true hk Tryz.prog (tabOf Tryz.prog) 38 plans 1000 (.exit 0) [.blk 0,.seq (codeOf Tryz.prog 86 [1,1,1,1])] (wEnd (tabOf Tryz.prog) Tryz.f86 false S.boxes.length Q) [(7,.v (.one (.i n7))),(6,.v (.one (.i n))),(5,.v (.one x5)),(4,.v (.one (.str
 k_))),(0,.v (.ptr c0 0))] S_1 []=∃ r,dConv (tabOf Tryz.prog) 22 9 x5=some (AL.str r)/\true=true/\Q (.one (.str r))
 S_1
 := by intros; kernel_rfl
theorem v67 : ∀ (hk : Hk) (c0 : Nat) (s1 : ByteArray) (S : St) (Q : AV->St->Prop),wFn true hk Tryz.prog (tabOf Tryz.prog) Proofs.YtkdickfiifpblaaGreatDoor.D.pl67 false 67 [.ptr c0 0,.one (.str s1)] S Q=(true=true/\(((↑s1.size : Int) == 0)=true->∃ R,hk.1 86 [.ptr c0 0,.one (.i 3)] S [] R/\∀ (s : ByteArray) (S1 : St),R (.one (.str s)) S1->true=true/\Q (.one (.str s))
 S1)/\(((↑s1.size : Int) == 0)=false->∃ R,hk.1 41 [.ptr c0 0,.one (.i (↑s1.size : Int))] S [] R/\∀ (n : Int) (S1 : St),R (.one (.i n)) S1->∃ R,hk.1 41 [.ptr c0 0,.one (.i 4)] S1 [] R/\∀ (n_1 : Int) (S1 : St),R (.one (.i n_1)) S1->((n_1 == 0)=true->true=true/\0<=n/\n<=(↑s1.size : Int)/\in64 (n + 1)/\0<=n + 1/\n + 1<=(↑s1.size : Int)/\(s1.extract 0 n.toNat).size + (s1.extract (n +
 1).toNat s1.size).size<=9223372036854775807/\true=true/\Q (.one (.str (s1.extract 0 n.toNat++s1.extract (n + 1).toNat s1.size))) S1)/\((n_1 == 0)=false->((n_1 == 1)=true->true=true/\0<=n/\n<=(↑s1.size : Int)/\0<=n/\n<=(↑s1.size : Int)/\(∃ R,hk.1 68 [.ptr c0 0] S1 [] R/\∀ (n_2 : Int) (S1 : St),R (.one (.i n_2)) S1->(((∃ r,some (AL.str (strOfNums [IntKind.u8.wrap n_2]))=some
 (AL.str r)/\(s1.extract 0 n.toNat).size + r.size<=9223372036854775807/\(s1.extract 0 n.toNat++r).size + (s1.extract n.toNat s1.size).size<=9223372036854775807/\true=true/\Q (.one (.str (s1.extract 0 n.toNat++r++s1.extract n.toNat s1.size))) (S1.born (1,5,1)))/\True)/\True)/\True)/\True)/\((n_1 == 1)=false->((n_1 == 2)=true->0<=n/\n<=(↑s1.size : Int)/\true=true/\Q (.one (.str
 (s1.extract 0 n.toNat))) S1)/\((n_1 == 2)=false->true=true/\0<=n/\n<=(↑s1.size : Int)/\0<=n/\n < (↑s1.size : Int)/\in64 (n + 1)/\0<=n + 1/\n + 1<=(↑s1.size : Int)/\(in64 (byteAt s1 n)/\(∃ R,hk.1 41 [.ptr c0 0,.one (.i 255)] S1 [] R/\∀ (n_2 : Int) (S1 : St),R (.one (.i n_2)) S1->in64 (1 + n_2)/\(((∃ r,some (AL.str (strOfNums [IntKind.u8.wrap (IntKind.i64.wrap (↑(BitVec.ofInt 64
 (byteAt s1 n) ^^^ BitVec.ofInt 64 (1 + n_2)).toNat : Int))]))=some (AL.str r)/\(s1.extract 0 n.toNat).size + r.size<=9223372036854775807/\(s1.extract 0 n.toNat++r).size + (s1.extract (n + 1).toNat s1.size).size<=9223372036854775807/\true=true/\Q (.one (.str (s1.extract 0 n.toNat++r++s1.extract (n + 1).toNat s1.size))) (S1.born (1,5,1)))/\True)/\True)/\True)/\True)/\(∃ R,hk.1 41
 [.ptr c0 0,.one (.i 255)] S1 [] R/\∀ (n_2 : Int) (S1 : St),R (.one (.i n_2)) S1->in64 (1 + n_2)/\(in64 (byteAt s1 n)/\(((∃ r,some (AL.str (strOfNums [IntKind.u8.wrap (IntKind.i64.wrap (↑(BitVec.ofInt 64 (byteAt s1 n) ^^^ BitVec.ofInt 64 (1 + n_2)).toNat : Int))]))=some (AL.str r)/\(s1.extract 0 n.toNat).size + r.size<=9223372036854775807/\(s1.extract 0 n.toNat++r).size +
 (s1.extract (n + 1).toNat s1.size).size<=9223372036854775807/\true=true/\Q (.one (.str (s1.extract 0 n.toNat++r++s1.extract (n + 1).toNat s1.size))) (S1.born
 (1,5,1)))/\True)/\True)/\True)/\True)/\True)))))
 := by intros; kernel_rfl
theorem v34 : ∀ (hk : Hk) (plans : Nat->Plan) (n0 : Int) (S : St) (Q : AV->St->Prop),wFn true hk Tryz.prog (tabOf Tryz.prog) plans false 34 [.one (.i n0)] S Q=(true=true/\((n0 == 0)=true->true=true/\Q (.one (.str k25)) S)/\((n0 == 0)=false->hk.2 31 (codeOf Tryz.prog 34 [1,1,1,1,0,0,0]) [.blk 0,.seq (codeOf Tryz.prog 34 [1,1,1,1,1])] (wEnd (tabOf Tryz.prog) Tryz.f34 false
 S.boxes.length Q) [(4,.v (.one (.bool (decide (n0 < 0))))),(9,.v (.one (.bool (decide (n0 < 0))))),(8,.v (.one (.i n0))),(3,.v (.one (.str k_))),(7,.v (.one (.bool (n0 == 0)))),(6,.v (.one (.i n0))),(2,.v (.one (.str k_))),(0,.v (.one (.i n0)))] S
 []))
 := by intros; kernel_rfl
theorem b34_0 : ∀ (hk : Hk) (plans : Nat->Plan) (n0 : Int) (s3 : ByteArray) (n0_1 : Int) (S : St) (K : QW),wCode true hk Tryz.prog (tabOf Tryz.prog) 31 plans 1000 (codeOf Tryz.prog 34 [1,1,1,1,0,0,0]) [] (fun e env S L => K e (restr [4,3,2,0] env) S L) [(4,.v (.one (.bool (decide (n0 < 0))))),(3,.v (.one (.str s3))),(2,.v (.one (.str k_))),(0,.v (.one (.i n0_1)))] S []=(((n0_1
 != 0)=true->(10 : Int) ≠ 0/\(decide (n0_1.tmod 10 < 0)=true->in64 (48 + IntKind.i64.wrap (0 - n0_1.tmod 10))/\∃ r,some (AL.str (strOfNums [IntKind.u8.wrap (48 + IntKind.i64.wrap (0 - n0_1.tmod 10))]))=some (AL.str r)/\r.size + s3.size<=9223372036854775807/\(10 : Int) ≠ 0/\in64 (n0_1.tdiv 10)/\K .normal [(4,.v (.one (.bool (decide (n0 < 0))))),(3,.v (.one (.str (r++s3)))),(2,.v
 (.one (.str k_))),(0,.v (.one (.i (n0_1.tdiv 10))))] (S.born (1,5,1)) [])/\(decide (n0_1.tmod 10 < 0)=false->in64 (48 + n0_1.tmod 10)/\∃ r,some (AL.str (strOfNums [IntKind.u8.wrap (48 + n0_1.tmod 10)]))=some (AL.str r)/\r.size + s3.size<=9223372036854775807/\(10 : Int) ≠ 0/\in64 (n0_1.tdiv 10)/\K .normal [(4,.v (.one (.bool (decide (n0 < 0))))),(3,.v (.one (.str
 (r++s3)))),(2,.v (.one (.str k_))),(0,.v (.one (.i (n0_1.tdiv 10))))] (S.born (1,5,1)) []))/\((n0_1 != 0)=false->K (.exit 0) [(4,.v (.one (.bool (decide (n0 < 0))))),(3,.v (.one (.str s3))),(2,.v (.one (.str k_))),(0,.v (.one (.i n0_1)))] S
 []))
 := by intros; kernel_rfl
theorem x34_0 : ∀ (hk : Hk) (plans : Nat->Plan) (n0 : Int) (S : St) (Q : AV->St->Prop) (s3 : ByteArray) (n0_1 : Int) (S_1 : St),wCode.wEx true hk Tryz.prog (tabOf Tryz.prog) 31 plans 1000 (.exit 0) [.blk 0,.seq (codeOf Tryz.prog 34 [1,1,1,1,1])] (wEnd (tabOf Tryz.prog) Tryz.f34 false S.boxes.length Q) [(4,.v (.one (.bool (decide (n0 < 0))))),(3,.v (.one (.str s3))),(2,.v (.one
 (.str k_))),(0,.v (.one (.i n0_1)))] S_1 []=((decide (n0 < 0)=true->1 + s3.size<=9223372036854775807/\true=true/\Q (.one (.str (k7++s3))) S_1)/\(decide (n0 < 0)=false->true=true/\Q (.one (.str s3))
 S_1))
 := by intros; kernel_rfl
end Go.Proofs.YtkdickfiifpblaaGreatDoor.D
namespace Go.Proofs.YtkdickfiifpblaaGreatDoor.D
open Go Go.Den Go.Proofs
set_option maxRecDepth 100000
variable {w0 : World}
abbrev cuC (x : AL) (i h : Int) : TypeId × List AL := (65, [x, .int .i64 i, .int .i64 h])
def Src (x : AL) : Prop := ∃ n : Nat, x.len? = some n ∧ n ≤ 1048576 ∧ (0 < n → ∃ tok xs, x = .sl tok n xs ∧ ∀ i : Nat, i < n → ∃ v : Int, xs[i]? = some (.int .u8 v) ∧ 0 ≤ v ∧ v < 256)
theorem Src.get {x : AL} (h : Src x) : ∃ n : Nat, x.len? = some n ∧ n ≤ 1048576 ∧ ∀ i : Int, 0 ≤ i → i < n → ∃ tok xs, x = .sl tok n xs ∧ ∃ v : Int, (List.drop (i.toNat * 1) xs)[0]? = some (.int .u8 v) ∧ 0 ≤ v ∧ v < 256 := by
  obtain ⟨n, h1, h2, h3⟩ := h
  refine ⟨n, h1, h2, fun i i0 i1 => ?_⟩
  obtain ⟨tok, xs, hx, hg⟩ := h3 (by omega)
  obtain ⟨v, hv⟩ := hg i.toNat (by omega)
  refine ⟨tok, xs, hx, v, ?_, hv.2⟩
  rw [List.getElem?_drop]
  simpa using hv.1
def HasC (k : Nat) (x : AL) (S : St) : Prop := ∃ i h : Int, S.boxes[k]? = some (cuC x i h) ∧ 0 ≤ i
def Moved (k : Nat) (x : AL) (S S' : St) : Prop := ∃ i h : Int, S'.boxes = S.boxes.set k (cuC x i h) ∧ 0 ≤ i ∧ TokLe S S'
theorem HasC.lt {k : Nat} {x : AL} {S : St} (h : HasC k x S) : k < S.boxes.length := by
  obtain ⟨i, h, hb, _⟩ := h
  exact (List.getElem?_eq_some_iff.1 hb).1
theorem Moved.has {k : Nat} {x : AL} {S S' : St} (h : Moved k x S S') (hk : k < S.boxes.length) : HasC k x S' := by
  obtain ⟨i, h, hb, h0, _⟩ := h
  refine ⟨i, h, ?_, h0⟩
  rw [hb, List.getElem?_set_self hk]
theorem HasC.moved {k : Nat} {x : AL} {S : St} (h : HasC k x S) : Moved k x S S := by
  obtain ⟨i, h, hb, h0⟩ := h
  obtain ⟨hl, he⟩ := List.getElem?_eq_some_iff.1 hb
  exact ⟨i, h, by rw [← he, List.set_getElem_self], h0, TokLe.refl S⟩
theorem Moved.trans {k : Nat} {x : AL} {S S' S'' : St} (h : Moved k x S S') (g : Moved k x S' S'') : Moved k x S S'' := by
  obtain ⟨i, h, hb, _, ht⟩ := h
  obtain ⟨i', h', hb', h0', ht'⟩ := g
  exact ⟨i', h', by rw [hb', hb, List.set_set], h0', ht.trans ht'⟩
theorem Moved.ext {k : Nat} {x : AL} {S S' S'' : St} (h : Moved k x S S') (g : Ext S' S'') : Moved k x S S'' := by
  obtain ⟨i, h, hb, h0, ht⟩ := h
  exact ⟨i, h, by rw [g.1, hb], h0, ht.trans g.2⟩
theorem HasC.ext {k : Nat} {x : AL} {S S' : St} (h : HasC k x S) (g : Ext S S') : HasC k x S' := by
  obtain ⟨i, h, hb, h0⟩ := h
  exact ⟨i, h, by rw [g.1, hb], h0⟩
structure ConC (w0 : World) (f : FuncId) (args : List AV) (k : Nat) (x : AL) (r : AV → Prop) : Prop where
  tot : ∀ S, HasC k x S → Tot Tryz.prog w0 f args S fun v S' => Moved k x S S' ∧ r v
  sh : ∀ v, r v → ∃ fn vs, Tryz.prog.funcs[f]? = some fn ∧ v = tupOf vs ∧ likeVs (tabOf Tryz.prog) fn.resultTypes.toList vs = true
theorem ConC.use {f : FuncId} {args : List AV} {k : Nat} {x : AL} {r : AV → Prop} (h : ConC w0 f args k x r) (S : St) (L : Lo) (hp : HasC k x S) : (realHk Tryz.prog w0 (tabOf Tryz.prog)).tot f args S L fun v S' => Moved k x S S' ∧ r v := by
  have hk := hp.lt
  obtain ⟨i, hh, hb, h0⟩ := hp
  refine ⟨(h.tot (join S L) ⟨i, hh, ?_, h0⟩).mono ?_, fun v S1 hv => h.sh v hv.2⟩
  · show (S.boxes ++ L)[k]? = _
    rw [List.getElem?_append_left hk, hb]
  · rintro v S' ⟨⟨i', h', hb', h0', ht⟩, hr⟩
    refine ⟨{ S' with boxes := S.boxes.set k (cuC x i' h') }, ?_, by simp, ⟨i', h', rfl, h0', ht.1, ht.2, ht.yng⟩, hr⟩
    show S' = { S' with boxes := S.boxes.set k (cuC x i' h') ++ L }
    have : S'.boxes = S.boxes.set k (cuC x i' h') ++ L := by
      rw [hb']
      show (S.boxes ++ L).set k _ = _
      rw [List.set_append_left _ _ hk]
    rw [← this]
theorem ConC.of_fn {nov : Bool} {plans : Nat → Plan} {f : FuncId} {args : List AV} {k : Nat} {x : AL} {r : AV → Prop}
    (sh : ∀ v, r v → ∃ fn vs, Tryz.prog.funcs[f]? = some fn ∧ v = tupOf vs ∧ likeVs (tabOf Tryz.prog) fn.resultTypes.toList vs = true)
    (h : ∀ S, HasC k x S → wFn nov (realHk Tryz.prog w0 (tabOf Tryz.prog)) Tryz.prog (tabOf Tryz.prog) plans false f args S fun v S' => Moved k x S S' ∧ r v) : ConC w0 f args k x r := by
  exact ⟨fun S hp => Tot.of_wFnK hT rfl hmo (h S hp), sh⟩
theorem i64_wrap {n : Int} (h : in64 n) : IntKind.i64.wrap n = n := by
  unfold in64 at h
  simp [IntKind.wrap, IntKind.bits, IntKind.signed]
  omega
theorem and_low (a : Int) : 0 ≤ IntKind.i64.wrap ((BitVec.ofInt 64 a &&& BitVec.ofInt 64 255).toNat : Nat) ∧ IntKind.i64.wrap ((BitVec.ofInt 64 a &&& BitVec.ofInt 64 255).toNat : Nat) < 256 := by
  have h : (BitVec.ofInt 64 a &&& BitVec.ofInt 64 255).toNat ≤ 255 := by
    rw [BitVec.toNat_and]
    exact Nat.and_le_right
  rw [i64_wrap (by unfold in64; omega)]
  omega
def rLow (m : Int) (v : AV) : Prop := ∃ n : Int, v = int n ∧ 0 ≤ n ∧ n < m
theorem l1Byte_ok (k : Nat) (x : AL) (hx : Src x) : ConC w0 68 [.ptr k 0] k x (rLow 256) := by
  refine ConC.of_fn (plans := pl68) (nov := false) (fun v hv => by obtain ⟨n, rfl, _⟩ := hv; exact ⟨Tryz.f68, [int n], by kernel_rfl, rfl, by kernel_rfl⟩) (fun S hp => ?_)
  have hk := hp.lt
  obtain ⟨i, h, hb, h0⟩ := hp
  obtain ⟨n, g1, g2, g3⟩ := hx.get
  rw [v68]
  refine ⟨rfl, _, hb, ⟨_, rfl, rfl⟩, fun m hm => ?_⟩
  cases hm
  have st1 : ∀ (S : St) (i h a : Int), S.boxes[k]? = some (cuC x i h) → dStore (tabOf Tryz.prog) 3 (.ptr k 1) (int a) S = some { S with boxes := S.boxes.set k (cuC x a h) } := by
    intro S i h a hb
    unfold dStore
    rw [T3]
    simp only [Option.bind_some, hb]
    simp [AV.flat]
  have st2 : ∀ (S : St) (i h a : Int), S.boxes[k]? = some (cuC x i h) → dStore (tabOf Tryz.prog) 3 (.ptr k 2) (int a) S = some { S with boxes := S.boxes.set k (cuC x i a) } := by
    intro S i h a hb
    unfold dStore
    rw [T3]
    simp only [Option.bind_some, hb]
    simp [AV.flat]
  refine ⟨_, st2 S i h _ hb, rfl, ?_⟩
  have b1 : ∀ a : Int, ({ S with boxes := S.boxes.set k (cuC x i a) } : St).boxes[k]? = some (cuC x i a) := fun a => by
    show (S.boxes.set k (cuC x i a))[k]? = _
    rw [List.getElem?_set_self hk]
  have fin : ∀ (a : Int) (S2 : St), (∃ i' a' : Int, S2.boxes = S.boxes.set k (cuC x i' a') ∧ 0 ≤ i') → S2.toks = S.toks → S2.young = S.young → Moved k x S S2 ∧ rLow 256 (int (IntKind.i64.wrap ((BitVec.ofInt 64 a &&& BitVec.ofInt 64 255).toNat : Nat))) := by
    rintro a S2 ⟨i', a', h1, h2⟩ h3 h4
    refine ⟨⟨i', a', h1, h2, ?_⟩, _, rfl, and_low a⟩
    exact ⟨fun t y hy => by unfold St.tok at *; rw [h3]; exact hy, by rw [h3]; exact Nat.le_refl _, fun t ht => by rw [h4]; exact ht⟩
  have str : decide (i < (n : Int)) = true → ∀ a c : Int, ∃ S', dStore (tabOf Tryz.prog) 3 (.ptr k 1) (int (IntKind.i64.wrap (i + 1))) { S with boxes := S.boxes.set k (cuC x i c) } = some S' ∧ true = true ∧ (Moved k x S S' ∧ rLow 256 (int (IntKind.i64.wrap ((BitVec.ofInt 64 a &&& BitVec.ofInt 64 255).toNat : Nat)))) := by
    intro hlt a c
    refine ⟨_, st1 _ i c _ (b1 _), rfl, fin _ _ ⟨IntKind.i64.wrap (i + 1), c, ?_, ?_⟩ rfl rfl⟩
    · exact List.set_set ..
    · have := of_decide_eq_true hlt
      rw [i64_wrap (by unfold in64; omega)]
      omega
  repeat' first
    | exact True.intro
    | exact (rfl : true = true)
    | (refine ⟨_, b1 _, ⟨.int .i64 _, rfl, rfl⟩, ?_⟩; intro m hm; cases hm)
    | (refine ⟨_, b1 _, ⟨_, rfl, rfl⟩, ?_⟩; intro m hm; cases hm)
    | exact ⟨rfl, fin _ _ ⟨_, _, rfl, h0⟩ rfl rfl⟩
    | refine ⟨n, g1, ?_⟩
    | (refine And.intro (fun hlt => ?_) (fun _ => ?_); obtain ⟨tok, xs, hsl, v, hv, v0, v1⟩ := g3 i h0 (of_decide_eq_true hlt))
    | (refine ⟨_, _, _, hsl, h0, of_decide_eq_true hlt, ?_⟩)
    | (refine ⟨⟨_, rfl, hv⟩, ?_⟩; intro m hm; rw [hv] at hm; cases hm)
    | exact str hlt _ _
    | apply And.intro
end Go.Proofs.YtkdickfiifpblaaGreatDoor.D
namespace Go.Proofs.YtkdickfiifpblaaGreatDoor.D
open Go Go.Den Go.Proofs
set_option maxRecDepth 100000
variable {w0 : World}
structure Dr (k : Nat) (x : AL) (S0 S : St) : Prop where
  mv : Moved k x S0 S
  has : HasC k x S
theorem Dr.start {k : Nat} {x : AL} {S : St} (h : HasC k x S) : Dr k x S S := ⟨h.moved, h⟩
theorem Dr.on {k : Nat} {x : AL} {S0 S S' : St} (h : Dr k x S0 S) (g : Moved k x S S') : Dr k x S0 S' := ⟨h.mv.trans g, g.has h.has.lt⟩
theorem Dr.ext {k : Nat} {x : AL} {S0 S S' : St} (h : Dr k x S0 S) (g : Ext S S') : Dr k x S0 S' := ⟨h.mv.ext g, h.has.ext g⟩
theorem Dr.born {k : Nat} {x : AL} {S0 S : St} (h : Dr k x S0 S) (y : Nat × TypeId × Nat) : Dr k x S0 (S.born y) := h.ext (Ext.born S y)
def rI (r : Int → Prop) (v : AV) : Prop := ∃ n : Int, v = int n ∧ r n
def rB (v : AV) : Prop := ∃ b : Bool, v = bool b
def rT (m : Nat) (v : AV) : Prop := ∃ s : ByteArray, v = str s ∧ s.size ≤ m
section
variable {f : Nat} {args : List AV} {k : Nat} {x : AL} {S0 S : St} {L : Lo}
theorem dI {r : Int → Prop} {H : Int → St → Prop} (h : ConC w0 f args k x (rI r)) (hd : Dr k x S0 S) (kk : ∀ n S1, Dr k x S0 S1 → r n → H n S1) :
    ∃ R, (realHk Tryz.prog w0 (tabOf Tryz.prog)).1 f args S L R ∧ ∀ (n : Int) (S1 : St), R (AV.one (AL.int IntKind.i64 n)) S1 → H n S1 := by
  refine ⟨_, h.use S L hd.has, ?_⟩
  rintro n S1 ⟨hm, n', hn, hr⟩
  cases hn
  exact kk n S1 (hd.on hm) hr
theorem dB {H : Bool → St → Prop} (h : ConC w0 f args k x rB) (hd : Dr k x S0 S) (kk : ∀ n S1, Dr k x S0 S1 → H n S1) :
    ∃ R, (realHk Tryz.prog w0 (tabOf Tryz.prog)).1 f args S L R ∧ ∀ (b : Bool) (S1 : St), R (AV.one (AL.bool b)) S1 → H b S1 := by
  refine ⟨_, h.use S L hd.has, ?_⟩
  rintro n S1 ⟨hm, n', hn⟩
  exact kk n S1 (hd.on hm)
theorem dT {m : Nat} {H : ByteArray → St → Prop} (h : ConC w0 f args k x (rT m)) (hd : Dr k x S0 S) (kk : ∀ s S1, Dr k x S0 S1 → s.size ≤ m → H s S1) :
    ∃ R, (realHk Tryz.prog w0 (tabOf Tryz.prog)).1 f args S L R ∧ ∀ (s : ByteArray) (S1 : St), R (AV.one (AL.str s)) S1 → H s S1 := by
  refine ⟨_, h.use S L hd.has, ?_⟩
  rintro n S1 ⟨hm, n', hn, hr⟩
  cases hn
  exact kk n S1 (hd.on hm) hr
theorem dTe {m : Nat} {H : ByteArray → St → Prop} (h : CON w0 f args (rT m)) (hd : Dr k x S0 S) (kk : ∀ s S1, Dr k x S0 S1 → s.size ≤ m → H s S1) :
    ∃ R, (realHk Tryz.prog w0 (tabOf Tryz.prog)).1 f args S L R ∧ ∀ (s : ByteArray) (S1 : St), R (AV.one (AL.str s)) S1 → H s S1 := by
  refine ⟨_, h.use S L, ?_⟩
  rintro n S1 ⟨hm, n', hn, hr⟩
  cases hn
  exact kk n S1 (hd.ext hm) hr
end
theorem l1Byte_c (k : Nat) (x : AL) (hx : Src x) : ConC w0 68 [.ptr k 0] k x (rI fun n => 0 ≤ n ∧ n < 256) :=
  ⟨fun S hp => ((l1Byte_ok k x hx).tot S hp).mono fun v S' ⟨hm, n, hn, h⟩ => ⟨hm, n, hn, h⟩, fun v ⟨n, hn, _⟩ => ⟨Tryz.f68, [int n], by kernel_rfl, hn, by kernel_rfl⟩⟩
def below (n m : Int) : Prop := 0 ≤ m ∧ (0 < n → m < n)
theorem l1Below_c (k : Nat) (x : AL) (hx : Src x) (n : Int) : ConC w0 41 [.ptr k 0, int n] k x (rI (below n)) := by
  refine ConC.of_fn (plans := np) (nov := true) (fun v hv => by obtain ⟨n, rfl, _⟩ := hv; exact ⟨Tryz.f41, [int n], by kernel_rfl, rfl, by kernel_rfl⟩) (fun S hp => ?_)
  rw [v41]
  refine ⟨rfl, fun h => ⟨rfl, hp.moved, 0, rfl, Int.le_refl 0, fun h0 => by have := of_decide_eq_true h; omega⟩, fun h => ?_⟩
  have hn := of_decide_eq_false h
  have fin : ∀ a : Int, 0 ≤ a → below n (a.tmod n) := fun a ha => ⟨Int.tmod_nonneg _ ha, fun h0 => Int.tmod_lt_of_pos _ h0⟩
  refine ⟨fun _ => dI (l1Byte_c k x hx) (Dr.start hp) fun a S1 hd ha => ⟨by omega, rfl, hd.mv, _, rfl, fin a ha.1⟩, fun _ => ?_⟩
  refine dI (l1Byte_c k x hx) (Dr.start hp) fun a S1 hd ha => dI (l1Byte_c k x hx) hd fun b S2 hd hb => dI (l1Byte_c k x hx) hd fun c S3 hd hc => dI (l1Byte_c k x hx) hd fun d S4 hd he => ?_
  unfold in64
  refine ⟨by omega, by omega, by omega, by omega, by omega, by omega, by omega, rfl, hd.mv, _, rfl, fin _ (by omega)⟩
theorem l1Once_c (k : Nat) (x : AL) (hx : Src x) (n : Int) : ConC w0 16 [.ptr k 0, int n] k x rB := by
  refine ConC.of_fn (plans := np) (nov := true) (fun v hv => by obtain ⟨n, rfl⟩ := hv; exact ⟨Tryz.f16, [bool n], by kernel_rfl, rfl, by kernel_rfl⟩) (fun S hp => ?_)
  rw [v16]
  exact ⟨rfl, dI (l1Below_c k x hx n) (Dr.start hp) fun a S1 hd ha => ⟨rfl, hd.mv, _, rfl⟩⟩
def Txts (m : Nat) : List AL → Prop
  | [] => True
  | .str s :: r => s.size ≤ m ∧ Txts m r
  | _ :: _ => False
theorem Txts.get {m : Nat} : ∀ {ys : List AL} (_ : Txts m ys) (i : Nat) (_ : i < ys.length), ∃ s, ys[i]? = some (.str s) ∧ s.size ≤ m
  | .str s :: r, h, 0, _ => ⟨s, rfl, h.1⟩
  | .str s :: r, h, i + 1, hi => by
    obtain ⟨t, h1, h2⟩ := Txts.get (ys := r) h.2 i (by simpa using hi)
    exact ⟨t, by simpa using h1, h2⟩
theorem l1Pick_c (k : Nat) (x : AL) (hx : Src x) (m : Nat) {tok : Option Nat} {n : Nat} {ys : List AL} (hn : ys.length = n) (h0 : 0 < n) (hs : Txts m ys) : ConC w0 42 [.ptr k 0, .one (.sl tok n ys)] k x (rT m) := by
  refine ConC.of_fn (plans := np) (nov := true) (fun v hv => by obtain ⟨n, rfl, _⟩ := hv; exact ⟨Tryz.f42, [str n], by kernel_rfl, rfl, by kernel_rfl⟩) (fun S hp => ?_)
  rw [v42]
  refine ⟨rfl, n, rfl, dI (l1Below_c k x hx _) (Dr.start hp) fun a S1 hd ha => ?_⟩
  have ha2 := ha.2 (by omega)
  obtain ⟨s, h1, h2⟩ := hs.get a.toNat (by have := ha.1; omega)
  have h1' : (List.drop (a.toNat * 1) ys)[0]? = some (.str s) := by rw [List.getElem?_drop]; simpa using h1
  refine ⟨tok, n, ys, rfl, ha.1, ha2, ⟨_, rfl, h1'⟩, fun s' hs' => ?_⟩
  rw [h1'] at hs'
  cases hs'
  exact ⟨rfl, hd.mv, _, rfl, h2⟩
theorem l1Size_c (x : AL) (hx : Src x) : CON w0 15 [.one x, int 10] (rI fun n => 0 ≤ n ∧ n ≤ 10) := by
  refine Con.of_fn (plans := np) hT hmo (nov := true) (fun v hv => by obtain ⟨e, rfl, _⟩ := hv; exact ⟨Tryz.f15, [int e], by kernel_rfl, rfl, by kernel_rfl⟩) (fun S => ?_)
  rw [v15]
  obtain ⟨n, g1, g2, _⟩ := hx.get
  have h0 : 0 ≤ (n : Int).tdiv 20 := Int.tdiv_nonneg (by omega) (by omega)
  have h1 : (n : Int).tdiv 20 ≤ n := Int.tdiv_le_self _ (by omega)
  refine ⟨rfl, n, g1, by omega, by unfold in64; omega, by unfold in64; omega, fun _ => ⟨rfl, Ext.refl S, _, rfl, by omega, by omega⟩, fun h => ⟨rfl, Ext.refl S, _, rfl, by omega, by have := of_decide_eq_false h; omega⟩⟩
end Go.Proofs.YtkdickfiifpblaaGreatDoor.D
namespace Go.Proofs.YtkdickfiifpblaaGreatDoor.D
open Go Go.Den Go.Proofs
set_option maxRecDepth 100000
variable {w0 : World}
theorem size_strOfNums (l : List Int) : (strOfNums l).size = l.length := by
  simp [strOfNums, ByteArray.size]
theorem one_size (n : Int) : (strOfNums [n]).size = 1 := size_strOfNums _
def U8s (xs : List AL) (l : List Int) : Prop := xs = l.map fun n => AL.int .u8 n
theorem U8s.nums : ∀ {l : List Int}, nums (l.map fun n => AL.int .u8 n) = some l
  | [] => rfl
  | n :: l => by
    show (Go.Den.nums (l.map fun n => AL.int .u8 n)).map (fun l => n :: l) = some (n :: l)
    rw [U8s.nums]
    rfl
def iText (k : Nat) (y : AL) (S0 : St) (n : Int) (most : Int) : Nat → KE := fun m env S' L => ∃ (n7 : Int) (x5 : AL) (l : List Int), env = [(7, .v (int n7)), (6, .v (int n)), (5, .v (.one x5)), (4, .v (str ⟨⟨[]⟩⟩)), (0, .v (.ptr k 0))] ∧ L = [] ∧
  (∃ i h : Int, S'.boxes = S0.boxes.set k (cuC y i h) ∧ 0 ≤ i) ∧ HasC k y S' ∧ TokLe S0 S' ∧ Row S' 5 1 x5 l.length (l.map fun n => AL.int .u8 n) ∧ (∃ t, x5.tk = some t ∧ S0.toks.length ≤ t) ∧ 0 ≤ n7 ∧ n7 ≤ most ∧ (l.length : Int) + n7 ≤ most ∧ (m : Int) = n7
theorem l1Text_c (k : Nat) (y : AL) (hy : Src y) : ConC w0 86 [.ptr k 0, int 3] k y (rT 3) := by
  refine ConC.of_fn (plans := np) (nov := true) (fun v hv => by obtain ⟨n, rfl, _⟩ := hv; exact ⟨Tryz.f86, [str n], by kernel_rfl, rfl, by kernel_rfl⟩) (fun S hp => ?_)
  rw [v86]
  have hp' := hp.ext (Ext.born S (0, 5, 1))
  refine ⟨rfl, dI (l1Below_c k y hy _) (Dr.start hp') fun n S1 hd hn => ⟨by unfold in64; omega, dI (l1Below_c k y hy _) hd fun n1 S2 hd2 hn1 => ?_⟩⟩
  have hb := hn1.2 (by omega)
  refine ⟨[7, 6, 5, 4, 0], iText k y S n 3, n1.toNat, ⟨n1, _, [], rfl, rfl, ?_, hd2.has, ?_, ?_, ⟨S.toks.length, rfl, Nat.le_refl _⟩, hn1.1, by omega, by simp; omega, by have := hn1.1; omega⟩, ?_⟩
  · obtain ⟨i, h, hb, h0, _⟩ := hd2.mv
    exact ⟨i, h, hb, h0⟩
  · obtain ⟨i, h, hb, h0, ht⟩ := hd2.mv
    exact (TokLe.born S _).trans ht
  · obtain ⟨i, h, hb, h0, ht⟩ := hd2.mv
    exact (Row.born S 5 1).ext ht
  rintro m env S3 L3 ⟨n7, x5, l, rfl, rfl, hbx, hh, hle, hrow, htk, g0, g1, g2, hm⟩
  refine WSem.of hT hmo (nov := true) (plans := np) (f := 1000) ?_
  rw [b86_0]
  refine ⟨fun hgt => ?_, fun hgt => ?_⟩
  · have hgt := of_decide_eq_true hgt
    refine ⟨_, (l1Byte_c k y hy).use S3 [] hh, ?_⟩
    rintro b S4 ⟨hmv, b', hb', hb0, hb1⟩
    cases hb'
    have hmv' := hmv
    obtain ⟨i, h, hbb, hi0, ht⟩ := hmv
    have push : ∀ v : Int, 22 = 22 ∧ ∃ r S', dAppend2 (tabOf Tryz.prog) 22 x5 (.sl (some S4.toks.length) 1 [.int .u8 v]) (S4.born (1, 5, 1)) = some (r, S') ∧ in64 (n7 - 1) ∧
        loopK (iText k y S n 3) 0 m (KT w0 38 [Kn.blk 0, Kn.seq (CO 86 [1, 1, 1, 1])] (WE Tryz.f86 S.boxes.length (fun v S' => Moved k y S S' ∧ rT 3 v))) .normal [(7, .v (int (n7 - 1))), (6, .v (int n)), (5, .v (.one r)), (4, .v (str ⟨⟨[]⟩⟩)), (0, .v (.ptr k 0))] S' [] := by
      intro v
      refine ⟨rfl, ?_⟩
      obtain ⟨r, S', h1, h2, h3, h4, h5, h6, h7⟩ := (hrow.ext ht).push (t := 22) (ys := [.int .u8 v]) T22 rfl T5 rfl (by decide) rfl (by unfold maxLen; omega) (by show (l.length + 1) * 1 ≤ _; omega) (some S4.toks.length) (1, 5, 1)
      have hlt := hp.lt
      refine ⟨r, S', h1, by unfold in64; omega, loopK.again (L' := []) (m' := m - 1) ⟨by rw [h3, hbb, List.length_set]; exact hh.lt, trivial⟩ rfl (by omega) ⟨n7 - 1, r, l ++ [v], rfl, rfl, ?_, ?_, ?_, ?_, ?_, by omega, by omega, by simp; omega, by omega⟩⟩
      · obtain ⟨i2, h2', hb2, _⟩ := hbx
        exact ⟨i, h, by rw [h3, hbb, hb2, List.set_set], hi0⟩
      · obtain ⟨i3, h3', hb3, h03⟩ := hmv'.has hh.lt
        exact ⟨i3, h3', by rw [h3]; exact hb3, h03⟩
      · refine ⟨fun u z hu => h5 u z (ht.1 u z (hle.1 u z hu)) fun e => ?_, by have := hle.2; have := ht.2; omega, fun u hu => h7 u (ht.yng u (hle.yng u hu))⟩
        obtain ⟨t, h8, h9⟩ := htk
        rw [h8] at e
        cases e
        have := tok_lt hu
        omega
      · have : (l ++ [v]).map (fun n => AL.int .u8 n) = l.map (fun n => AL.int .u8 n) ++ [.int .u8 v] := by simp
        rw [this, List.length_append]
        exact h2
      · obtain ⟨t, h7, h8⟩ := h6
        exact ⟨t, h7, by have := hle.2; have := ht.2; omega⟩
    unfold in64 at push ⊢
    refine ⟨fun _ => ⟨by omega, fun _ => ⟨by omega, ?_, push _⟩, fun _ => push _⟩, fun _ => ⟨fun _ => ⟨by omega, ?_, push _⟩, fun _ => push _⟩⟩
    · have h1 := Int.tmod_nonneg 4 (Int.tmod_nonneg 2 hb0)
      have h2 := Int.tmod_lt_of_pos (b.tmod 2) (b := 4) (by omega)
      omega
    · have h1 := Int.tmod_nonneg 4 hb0
      have h2 := Int.tmod_lt_of_pos b (b := 4) (by omega)
      omega
  · have hgt := of_decide_eq_false hgt
    refine loopK.exit (L' := []) ⟨hh.lt, trivial⟩ rfl (kont.of hT hmo (nov := true) (plans := np) (f := 1000) ?_)
    rw [x86_0]
    obtain ⟨i, h, hbb, hi0⟩ := hbx
    refine ⟨strOfNums l, ?_, rfl, ⟨i, h, hbb, hi0, hle⟩, _, rfl, by rw [size_strOfNums]; omega⟩
    obtain ⟨t, ht1, ht2⟩ := htk
    obtain ⟨tk, hx⟩ : ∃ tk, x5 = .sl tk l.length (l.map fun n => AL.int .u8 n) := by
      obtain ⟨_, ⟨rfl, _⟩ | ⟨tk, rfl, _⟩⟩ := hrow
      · cases ht1
      · exact ⟨_, rfl⟩
    subst hx
    unfold dConv
    simp only []
    rw [T22]
    simp only [Option.bind_some]
    rw [T5, T9]
    simp [U8s.nums]
def iDec (S0 : St) (n0 : Int) : Nat → KE := fun m env S' L => ∃ (n : Int) (s : ByteArray), env = [(4, .v (bool (decide (n0 < 0)))), (3, .v (str s)), (2, .v (str ⟨⟨[]⟩⟩)), (0, .v (int n))] ∧ L = [] ∧ Ext S0 S' ∧ 0 ≤ n ∧ n ≤ 9 ∧ (s.size : Int) + n ≤ 9 ∧ (m : Int) = n
theorem Dec_c (n0 : Int) (h0 : 0 ≤ n0) (h9 : n0 ≤ 9) : CON w0 34 [int n0] (rT 10) := by
  refine Con.of_fn (plans := np) hT hmo (nov := true) (fun v hv => by obtain ⟨e, rfl, _⟩ := hv; exact ⟨Tryz.f34, [str e], by kernel_rfl, rfl, by kernel_rfl⟩) (fun S => ?_)
  rw [v34]
  refine ⟨rfl, fun _ => ⟨rfl, Ext.refl S, _, rfl, by show 1 ≤ 10; omega⟩, fun _ => ?_⟩
  refine ⟨[4, 3, 2, 0], iDec S n0, n0.toNat, ⟨n0, ⟨⟨[]⟩⟩, rfl, rfl, Ext.refl S, h0, h9, by show (0 : Int) + n0 ≤ 9; omega, by omega⟩, ?_⟩
  rintro m env S1 L1 ⟨n, s, rfl, rfl, hE, g0, g1, g2, hm⟩
  refine WSem.of hT hmo (nov := true) (plans := np) (f := 1000) ?_
  rw [b34_0]
  have d0 := Int.tmod_nonneg 10 g0
  have d1 := Int.tmod_lt_of_pos n (b := 10) (by omega)
  have e0 := Int.tdiv_nonneg g0 (b := 10) (by omega)
  have e1 : n.tdiv 10 = 0 := Int.tdiv_eq_zero_of_lt g0 (by omega)
  refine ⟨fun hne => ⟨by omega, fun hlt => ?_, fun _ => ⟨by unfold in64; omega, _, rfl, by rw [one_size]; omega, by omega, by unfold in64; omega, ?_⟩⟩, fun heq => ?_⟩
  · have := of_decide_eq_true hlt
    omega
  · have hne : n ≠ 0 := by simpa using hne
    refine loopK.again (L' := []) (m' := (n.tdiv 10).toNat) trivial rfl (by omega) ⟨n.tdiv 10, _, rfl, rfl, hE.trans (Ext.born S1 _), e0, by omega, ?_, by omega⟩
    rw [ByteArray.size_append, one_size]
    omega
  · refine loopK.exit (L' := []) trivial rfl (kont.of hT hmo (nov := true) (plans := np) (f := 1000) ?_)
    rw [x34_0]
    refine ⟨fun hlt => ?_, fun _ => ⟨rfl, hE, _, rfl, by omega⟩⟩
    have := of_decide_eq_true hlt
    omega
theorem l1Spoil_c (k : Nat) (x : AL) (hx : Src x) (s : ByteArray) (hs : s.size ≤ 1000000) : ConC w0 67 [.ptr k 0, str s] k x (rT (s.size + 3)) := by
  refine ConC.of_fn (plans := pl67) (nov := true) (fun v hv => by obtain ⟨n, rfl, _⟩ := hv; exact ⟨Tryz.f67, [str n], by kernel_rfl, rfl, by kernel_rfl⟩) (fun S hp => ?_)
  rw [v67]
  refine ⟨rfl, fun _ => dT (l1Text_c k x hx) (Dr.start hp) fun t S1 hd ht => ⟨rfl, hd.mv, _, rfl, by omega⟩, fun hne => ?_⟩
  have hne : s.size ≠ 0 := by simpa using hne
  refine dI (l1Below_c k x hx _) (Dr.start hp) fun n S1 hd hn => dI (l1Below_c k x hx _) hd fun j S2 hd _ => ?_
  have n0 := hn.1
  have n1 := hn.2 (by omega)
  have sz : ∀ a b : Nat, (s.extract a b).size ≤ s.size := fun a b => by rw [ByteArray.size_extract]; omega
  have z1 := sz 0 n.toNat
  have z2 := sz (n + 1).toNat s.size
  have z3 := sz n.toNat s.size
  have cut1 : (s.extract 0 n.toNat).size + (s.extract (n + 1).toNat s.size).size ≤ s.size := by rw [ByteArray.size_extract, ByteArray.size_extract]; omega
  have cut2 : (s.extract 0 n.toNat).size + (s.extract n.toNat s.size).size ≤ s.size := by rw [ByteArray.size_extract, ByteArray.size_extract]; omega
  have fin1 : ∀ (y : Int) (S3 : St), Dr k x S S3 → ∃ r, some (AL.str (strOfNums [IntKind.u8.wrap y])) = some (AL.str r) ∧ (s.extract 0 n.toNat).size + r.size ≤ 9223372036854775807 ∧ (s.extract 0 n.toNat ++ r).size + (s.extract n.toNat s.size).size ≤ 9223372036854775807 ∧ true = true ∧ (Moved k x S (S3.born (1, 5, 1)) ∧ rT (s.size + 3) (.one (.str (s.extract 0 n.toNat ++ r ++ s.extract n.toNat s.size)))) := fun y S3 hd =>
    ⟨_, rfl, by rw [one_size]; omega, by rw [ByteArray.size_append, one_size]; omega, rfl, (hd.born _).mv, _, rfl, by rw [ByteArray.size_append, ByteArray.size_append, one_size]; omega⟩
  have fin2 : ∀ (y : Int) (S3 : St), Dr k x S S3 → ∃ r, some (AL.str (strOfNums [IntKind.u8.wrap y])) = some (AL.str r) ∧ (s.extract 0 n.toNat).size + r.size ≤ 9223372036854775807 ∧ (s.extract 0 n.toNat ++ r).size + (s.extract (n + 1).toNat s.size).size ≤ 9223372036854775807 ∧ true = true ∧ (Moved k x S (S3.born (1, 5, 1)) ∧ rT (s.size + 3) (.one (.str (s.extract 0 n.toNat ++ r ++ s.extract (n + 1).toNat s.size)))) := fun y S3 hd =>
    ⟨_, rfl, by rw [one_size]; omega, by rw [ByteArray.size_append, one_size]; omega, rfl, (hd.born _).mv, _, rfl, by rw [ByteArray.size_append, ByteArray.size_append, one_size]; omega⟩
  have rb := byteAt_range s n
  repeat' first
    | exact True.intro
    | exact (rfl : true = true)
    | exact fin1 _ _ (by assumption)
    | exact fin2 _ _ (by assumption)
    | exact ⟨hd.mv, _, rfl, by first | omega | (simp only [ByteArray.size_append]; omega)⟩
    | (refine dI (l1Byte_c k x hx) hd ?_; intro b S3 hd3 hb)
    | (refine dI (l1Below_c k x hx _) hd ?_; intro b S3 hd3 hb; have hb0 := hb.1; have hb1 := hb.2 (by omega))
    | (unfold in64; omega)
    | omega
    | refine And.intro (fun _ => ?_) (fun _ => ?_)
    | apply And.intro
def iNew (S0 : St) (x : AL) (n : Nat) : Nat → KE := fun m env S' L => ∃ i h : Int, env = [(4, .v (int i)), (3, .v (int h)), (2, .v .nilp), (0, .v (.one x))] ∧ L = [] ∧ S' = S0 ∧ 0 ≤ i ∧ i ≤ n ∧ 0 ≤ h ∧ h ≤ 1073741823 ∧ (m : Int) = n - i
theorem l1New_c (x : AL) (hx : Src x) (S : St) : Tot Tryz.prog w0 13 [.one x] S fun v S' => v = .ptr S.boxes.length 0 ∧ ∃ h : Int, S'.boxes = S.boxes ++ [cuC x 0 h] ∧ S'.toks = S.toks ∧ S'.young = S.young := by
  refine Tot.of_wFnK (keep := true) (nov := true) (plans := np) hT rfl hmo ?_
  rw [v13]
  obtain ⟨n, g1, g2, g3⟩ := hx.get
  refine ⟨rfl, n, g1, by unfold in64; omega, [4, 3, 2, 0], iNew S x n, n, ⟨0, 10101 + n, rfl, rfl, rfl, by omega, by omega, by omega, by omega, by omega⟩, ?_⟩
  rintro m env S1 L1 ⟨i, h, rfl, rfl, hS, i0, i1, h0, h1, hm⟩
  obtain rfl := hS.symm
  refine WSem.of hT hmo (nov := true) (plans := np) (f := 1000) ?_
  rw [b13_0]
  have fin : loopK (iNew S x n) 0 m (kont Tryz.prog w0 (tabOf Tryz.prog) 32 [Kn.blk 0, Kn.seq (codeOf Tryz.prog 13 [1, 1, 1])] (wEnd (tabOf Tryz.prog) Tryz.f13 true S.boxes.length fun v S' => (v = .ptr S.boxes.length 0 ∧ ∃ h : Int, S'.boxes = S.boxes ++ [cuC x 0 h] ∧ S'.toks = S.toks ∧ S'.young = S.young))) (.exit 0) [(4, .v (int i)), (3, .v (int h)), (2, .v .nilp), (0, .v (.one x))] S [] := by
    refine loopK.exit (L' := []) trivial rfl (kont.of hT hmo (nov := true) (plans := np) (f := 1000) ?_)
    have := x13_0 (realHk Tryz.prog w0 (tabOf Tryz.prog)) np x S (fun v S' => (v = .ptr S.boxes.length 0 ∧ ∃ h : Int, S'.boxes = S.boxes ++ [cuC x 0 h] ∧ S'.toks = S.toks ∧ S'.young = S.young)) i h S
    rw [this]
    exact ⟨rfl, h, rfl, rfl, rfl⟩
  refine ⟨n, g1, fun hlt => ⟨fun _ => ?_, fun _ => fin⟩, fun _ => fin⟩
  have hlt := of_decide_eq_true hlt
  obtain ⟨tok, xs, hsl, v, hv, v0, v1⟩ := g3 i i0 hlt
  refine ⟨by unfold in64; omega, tok, n, xs, hsl, i0, hlt, ⟨_, rfl, hv⟩, fun v' hv' => ?_⟩
  rw [hv] at hv'
  cases hv'
  have ha : 0 ≤ IntKind.i64.wrap ((BitVec.ofInt 64 (h * 131 + v + 7) &&& BitVec.ofInt 64 1073741823).toNat : Nat) ∧ IntKind.i64.wrap ((BitVec.ofInt 64 (h * 131 + v + 7) &&& BitVec.ofInt 64 1073741823).toNat : Nat) ≤ 1073741823 := by
    have h : (BitVec.ofInt 64 (h * 131 + v + 7) &&& BitVec.ofInt 64 1073741823).toNat ≤ 1073741823 := by
      rw [BitVec.toNat_and]
      exact Nat.and_le_right
    rw [i64_wrap (by unfold in64; omega)]
    omega
  unfold in64
  exact ⟨by omega, by omega, by omega, by omega, loopK.again (L' := []) (m' := m - 1) trivial rfl (by omega) ⟨i + 1, _, rfl, rfl, rfl, by omega, by omega, ha.1, ha.2, by omega⟩⟩
end Go.Proofs.YtkdickfiifpblaaGreatDoor.D
