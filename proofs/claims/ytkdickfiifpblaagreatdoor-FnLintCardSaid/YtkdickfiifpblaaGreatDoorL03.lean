/- Towards FnLint: Vd, Pg, Ph, Pi, Pj, Pm, Vg, Kb, Kc, Kd, Ke, Vh, Kf. -/
import Derived.Test.YtkdickfiifpblaaGreatDoorL02
import Derived.Test.YtkdickfiifpblaaGreatDoorProg
import Derived.KernelRfl
namespace Go.Proofs.YtkdickfiifpblaaGreatDoor.D
open Go Go.Den Go.Proofs
theorem v76 : ∀ (hk : Hk) (x0_0 : AL) (n0_1 n0_2 : Int) (b0_3 : Bool) (x0_4 x0_5 x0_6 x0_7 x0_8 x0_9 : AL) (n0_10 n0_11 : Int) (S : St) (Q : AV->St->Prop),wFn true hk Tryz.prog (tabOf Tryz.prog) Proofs.YtkdickfiifpblaaGreatDoor.D.pl76 false 76 [.agg (ps x0_0 n0_1 n0_2 b0_3 x0_4 x0_5 x0_6 x0_7 x0_8 x0_9 n0_10 n0_11)] S Q=(true=true/\∃ R,hk.1 82 [.agg (ps x0_0 n0_1 n0_2 b0_3 x0_4
 x0_5 x0_6 x0_7 x0_8 x0_9 n0_10 n0_11),.one (.str k17)] S [(90,(ps x0_0 n0_1 n0_2 b0_3 x0_4 x0_5 x0_6 x0_7 x0_8 x0_9 n0_10 n0_11)),(90,ps0)] R/\∀ (x : AL) (n n_1 : Int) (b : Bool) (x_1 x_2 x_3 x_4 x_5 x_6 : AL) (n_2 n_3 : Int) (S1 : St),R (.agg (ps x n n_1 b x_1 x_2 x_3 x_4 x_5 x_6 n_2 n_3)) S1->∃ R,hk.1 75 [.agg (ps x n n_1 b x_1 x_2 x_3 x_4 x_5 x_6 n_2 n_3),.one (.i 4),.one
 (.str k8)] S1 [(90,(ps x n n_1 b x_1 x_2 x_3 x_4 x_5 x_6 n_2 n_3)),(90,ps0)] R/\∀ (b_1 : Bool) (S1 : St),R (.one (.bool b_1)) S1->(b_1=true->∃ R,hk.1 105 [.agg (ps x n n_1 b x_1 x_2 x_3 x_4 x_5 x_6 n_2 n_3),.one (.bool false)] S1 [(90,(ps x n n_1 b x_1 x_2 x_3 x_4 x_5 x_6 n_2 n_3)),(90,ps0)] R/\∀ (x_7 : AL) (n_4 n_5 : Int) (b_2 : Bool) (x_8 x_9 x_10 x_11 x_12 x_13 : AL) (n_6
 n_7 : Int) (x_14 : AL) (b_3 : Bool) (S1 : St),R (.tup [.agg (ps x_7 n_4 n_5 b_2 x_8 x_9 x_10 x_11 x_12 x_13 n_6 n_7),.one x_14,.one (.bool b_3)]) S1->∃ R,hk.1 82 [.agg (ps x_7 n_4 n_5 b_2 x_8 x_9 x_10 x_11 x_12 x_13 n_6 n_7),.one (.str k22)] S1 [(90,(ps x n n_1 b x_1 x_2 x_3 x_4 x_5 x_6 n_2 n_3)),(90,ps0),(90,(ps x_7 n_4 n_5 b_2 x_8 x_9 x_10 x_11 x_12 x_13 n_6 n_7))] R/\∀ (x_15
 : AL) (n_8 n_9 : Int) (b_4 : Bool) (x_16 x_17 x_18 x_19 x_20 x_21 : AL) (n_10 n_11 : Int) (S1 : St),R (.agg (ps x_15 n_8 n_9 b_4 x_16 x_17 x_18 x_19 x_20 x_21 n_10 n_11)) S1->∃ R,hk.1 106 [.agg (ps x_15 n_8 n_9 b_4 x_16 x_17 x_18 x_19 x_20 x_21 n_10 n_11)] S1 [(90,(ps x n n_1 b x_1 x_2 x_3 x_4 x_5 x_6 n_2 n_3)),(90,ps0),(90,(ps x_7 n_4 n_5 b_2 x_8 x_9 x_10 x_11 x_12 x_13 n_6
 n_7))] R/\∀ (x_22 : AL) (n_12 n_13 : Int) (b_5 : Bool) (x_23 x_24 x_25 x_26 x_27 x_28 : AL) (n_14 n_15 : Int) (s : ByteArray) (S1 : St),R (.tup [.agg (ps x_22 n_12 n_13 b_5 x_23 x_24 x_25 x_26 x_27 x_28 n_14 n_15),.one (.str s)]) S1->∃ R,hk.1 80 [.agg (ps x_22 n_12 n_13 b_5 x_23 x_24 x_25 x_26 x_27 x_28 n_14 n_15),.one (.str k14)] S1 [(90,(ps x n n_1 b x_1 x_2 x_3 x_4 x_5 x_6
 n_2 n_3)),(90,ps0),(90,(ps x_7 n_4 n_5 b_2 x_8 x_9 x_10 x_11 x_12 x_13 n_6 n_7)),(90,(ps x_22 n_12 n_13 b_5 x_23 x_24 x_25 x_26 x_27 x_28 n_14 n_15))] R/\∀ (x_29 : AL) (n_16 n_17 : Int) (b_6 : Bool) (x_30 x_31 x_32 x_33 x_34 x_35 : AL) (n_18 n_19 : Int) (S1 : St),R (.agg (ps x_29 n_16 n_17 b_6 x_30 x_31 x_32 x_33 x_34 x_35 n_18 n_19)) S1->hk.2 108 (codeOf Tryz.prog 76
 [1,1,0,0,1,0,1,1,1,0,1,0,0]) [.blk 1,.seq (codeOf Tryz.prog 76 [1,1,0,0,1,0,1,1,1,1]),.blk 0,.seq (codeOf Tryz.prog 76 [1,1,1])] (wEnd (tabOf Tryz.prog) Tryz.f76 false S.boxes.length Q) [(8,.v (.one (.i 0))),(37,.v (.agg (ps x_29 n_16 n_17 b_6 x_30 x_31 x_32 x_33 x_34 x_35 n_18 n_19))),(36,.v (.agg (ps x_22 n_12 n_13 b_5 x_23 x_24 x_25 x_26 x_27 x_28 n_14 n_15))),(7,.v (.one
 (.str s))),(6,.loc 3 0),(35,.v (.one (.str s))),(34,.v (.agg (ps x_22 n_12 n_13 b_5 x_23 x_24 x_25 x_26 x_27 x_28 n_14 n_15))),(30,.v (.tup [.agg (ps x_22 n_12 n_13 b_5 x_23 x_24 x_25 x_26 x_27 x_28 n_14 n_15),.one (.str s)])),(33,.v (.tup [.agg (ps x_22 n_12 n_13 b_5 x_23 x_24 x_25 x_26 x_27 x_28 n_14 n_15),.one (.str s)])),(32,.v (.agg (ps x_15 n_8 n_9 b_4 x_16 x_17 x_18 x_19
 x_20 x_21 n_10 n_11))),(31,.v (.agg (ps x_7 n_4 n_5 b_2 x_8 x_9 x_10 x_11 x_12 x_13 n_6 n_7))),(5,.v (.one (.bool b_3))),(4,.v (.one x_14)),(3,.loc 2 0),(29,.v (.one (.bool b_3))),(28,.v (.one x_14)),(27,.v (.agg (ps x_7 n_4 n_5 b_2 x_8 x_9 x_10 x_11 x_12 x_13 n_6 n_7))),(24,.v (.tup [.agg (ps x_7 n_4 n_5 b_2 x_8 x_9 x_10 x_11 x_12 x_13 n_6 n_7),.one x_14,.one (.bool
 b_3)])),(26,.v (.tup [.agg (ps x_7 n_4 n_5 b_2 x_8 x_9 x_10 x_11 x_12 x_13 n_6 n_7),.one x_14,.one (.bool b_3)])),(25,.v (.agg (ps x n n_1 b x_1 x_2 x_3 x_4 x_5 x_6 n_2 n_3))),(21,.v (.one (.bool b_1))),(23,.v (.one (.bool b_1))),(22,.v (.agg (ps x n n_1 b x_1 x_2 x_3 x_4 x_5 x_6 n_2 n_3))),(20,.v (.agg (ps x n n_1 b x_1 x_2 x_3 x_4 x_5 x_6 n_2 n_3))),(19,.v (.agg (ps x0_0 n0_1
 n0_2 b0_3 x0_4 x0_5 x0_6 x0_7 x0_8 x0_9 n0_10 n0_11))),(2,.loc 1 0),(1,.loc 0 0),(0,.v (.agg (ps x0_0 n0_1 n0_2 b0_3 x0_4 x0_5 x0_6 x0_7 x0_8 x0_9 n0_10 n0_11)))] S1 [(90,(ps x_29 n_16 n_17 b_6 x_30 x_31 x_32 x_33 x_34 x_35 n_18 n_19)),(90,ps0),(90,(ps x_7 n_4 n_5 b_2 x_8 x_9 x_10 x_11 x_12 x_13 n_6 n_7)),(90,(ps x_22 n_12 n_13 b_5 x_23 x_24 x_25 x_26 x_27 x_28 n_14
 n_15))])/\(b_1=false->∃ R,hk.1 75 [.agg (ps x n n_1 b x_1 x_2 x_3 x_4 x_5 x_6 n_2 n_3),.one (.i 4),.one (.str k5)] S1 [(90,(ps x n n_1 b x_1 x_2 x_3 x_4 x_5 x_6 n_2 n_3)),(90,ps0)] R/\∀ (b_2 : Bool) (S1 : St),R (.one (.bool b_2)) S1->(b_2=true->∃ R,hk.1 80 [.agg (ps x n n_1 b x_1 x_2 x_3 x_4 x_5 x_6 n_2 n_3),.one (.str k5)] S1 [(90,(ps x n n_1 b x_1 x_2 x_3 x_4 x_5 x_6 n_2
 n_3)),(90,ps0)] R/\∀ (x_7 : AL) (n_4 n_5 : Int) (b_3 : Bool) (x_8 x_9 x_10 x_11 x_12 x_13 : AL) (n_6 n_7 : Int) (S1 : St),R (.agg (ps x_7 n_4 n_5 b_3 x_8 x_9 x_10 x_11 x_12 x_13 n_6 n_7)) S1->∃ R,hk.1 82 [.agg (ps x_7 n_4 n_5 b_3 x_8 x_9 x_10 x_11 x_12 x_13 n_6 n_7),.one (.str k9)] S1 [(90,(ps x n n_1 b x_1 x_2 x_3 x_4 x_5 x_6 n_2 n_3)),(90,ps0)] R/\∀ (x_14 : AL) (n_8 n_9 :
 Int) (b_4 : Bool) (x_15 x_16 x_17 x_18 x_19 x_20 : AL) (n_10 n_11 : Int) (S1 : St),R (.agg (ps x_14 n_8 n_9 b_4 x_15 x_16 x_17 x_18 x_19 x_20 n_10 n_11)) S1->∃ R,hk.1 84 [.agg (ps x_14 n_8 n_9 b_4 x_15 x_16 x_17 x_18 x_19 x_20 n_10 n_11),.one (.bool false)] S1 [(90,(ps x n n_1 b x_1 x_2 x_3 x_4 x_5 x_6 n_2 n_3)),(90,ps0)] R/\∀ (x_21 : AL) (n_12 n_13 : Int) (b_5 : Bool) (x_22
 x_23 x_24 x_25 x_26 x_27 : AL) (n_14 n_15 : Int) (s : ByteArray) (S1 : St),R (.tup [.agg (ps x_21 n_12 n_13 b_5 x_22 x_23 x_24 x_25 x_26 x_27 n_14 n_15),.one (.str s)]) S1->∃ R,hk.1 82 [.agg (ps x_21 n_12 n_13 b_5 x_22 x_23 x_24 x_25 x_26 x_27 n_14 n_15),.one (.str k22)] S1 [(90,(ps x n n_1 b x_1 x_2 x_3 x_4 x_5 x_6 n_2 n_3)),(90,ps0),(90,(ps x_21 n_12 n_13 b_5 x_22 x_23 x_24
 x_25 x_26 x_27 n_14 n_15))] R/\∀ (x_28 : AL) (n_16 n_17 : Int) (b_6 : Bool) (x_29 x_30 x_31 x_32 x_33 x_34 : AL) (n_18 n_19 : Int) (S1 : St),R (.agg (ps x_28 n_16 n_17 b_6 x_29 x_30 x_31 x_32 x_33 x_34 n_18 n_19)) S1->∃ R,hk.1 106 [.agg (ps x_28 n_16 n_17 b_6 x_29 x_30 x_31 x_32 x_33 x_34 n_18 n_19)] S1 [(90,(ps x n n_1 b x_1 x_2 x_3 x_4 x_5 x_6 n_2 n_3)),(90,ps0),(90,(ps x_21
 n_12 n_13 b_5 x_22 x_23 x_24 x_25 x_26 x_27 n_14 n_15))] R/\∀ (x_35 : AL) (n_20 n_21 : Int) (b_7 : Bool) (x_36 x_37 x_38 x_39 x_40 x_41 : AL) (n_22 n_23 : Int) (s_1 : ByteArray) (S1 : St),R (.tup [.agg (ps x_35 n_20 n_21 b_7 x_36 x_37 x_38 x_39 x_40 x_41 n_22 n_23),.one (.str s_1)]) S1->∃ R,hk.1 80 [.agg (ps x_35 n_20 n_21 b_7 x_36 x_37 x_38 x_39 x_40 x_41 n_22 n_23),.one (.str
 k14)] S1 [(90,(ps x n n_1 b x_1 x_2 x_3 x_4 x_5 x_6 n_2 n_3)),(90,ps0),(90,(ps x_21 n_12 n_13 b_5 x_22 x_23 x_24 x_25 x_26 x_27 n_14 n_15)),(90,(ps x_35 n_20 n_21 b_7 x_36 x_37 x_38 x_39 x_40 x_41 n_22 n_23))] R/\∀ (x_42 : AL) (n_24 n_25 : Int) (b_8 : Bool) (x_43 x_44 x_45 x_46 x_47 x_48 : AL) (n_26 n_27 : Int) (S1 : St),R (.agg (ps x_42 n_24 n_25 b_8 x_43 x_44 x_45 x_46 x_47
 x_48 n_26 n_27)) S1->∃ R,hk.1 107 [.agg (ps x_42 n_24 n_25 b_8 x_43 x_44 x_45 x_46 x_47 x_48 n_26 n_27),.agg [.str s_1,.str k5,.str s]] S1 [(90,(ps x n n_1 b x_1 x_2 x_3 x_4 x_5 x_6 n_2 n_3)),(90,ps0),(90,(ps x_21 n_12 n_13 b_5 x_22 x_23 x_24 x_25 x_26 x_27 n_14 n_15)),(90,(ps x_35 n_20 n_21 b_7 x_36 x_37 x_38 x_39 x_40 x_41 n_22 n_23))] R/\∀ (x : AL) (n n_28 : Int) (b : Bool)
 (x_49 x_50 x_51 x_52 x_53 x_54 : AL) (n_29 n_30 : Int) (S1 : St),R (.agg (ps x n n_28 b x_49 x_50 x_51 x_52 x_53 x_54 n_29 n_30)) S1->true=true/\Q (.agg (ps x n n_28 b x_49 x_50 x_51 x_52 x_53 x_54 n_29 n_30)) S1)/\(b_2=false->∃ R,hk.1 108 [.agg (ps x n n_1 b x_1 x_2 x_3 x_4 x_5 x_6 n_2 n_3),.one (.bool false)] S1 [(90,(ps x n n_1 b x_1 x_2 x_3 x_4 x_5 x_6 n_2 n_3)),(90,ps0)]
 R/\∀ (b_3 : Bool) (S1 : St),R (.one (.bool b_3)) S1->(b_3=true->∃ R,hk.1 84 [.agg (ps x n n_1 b x_1 x_2 x_3 x_4 x_5 x_6 n_2 n_3),.one (.bool false)] S1 [(90,(ps x n n_1 b x_1 x_2 x_3 x_4 x_5 x_6 n_2 n_3)),(90,ps0)] R/\∀ (x_7 : AL) (n_4 n_5 : Int) (b_4 : Bool) (x_8 x_9 x_10 x_11 x_12 x_13 : AL) (n_6 n_7 : Int) (s : ByteArray) (S1 : St),R (.tup [.agg (ps x_7 n_4 n_5 b_4 x_8 x_9
 x_10 x_11 x_12 x_13 n_6 n_7),.one (.str s)]) S1->∃ R,hk.1 82 [.agg (ps x_7 n_4 n_5 b_4 x_8 x_9 x_10 x_11 x_12 x_13 n_6 n_7),.one (.str k22)] S1 [(90,(ps x n n_1 b x_1 x_2 x_3 x_4 x_5 x_6 n_2 n_3)),(90,ps0),(90,(ps x_7 n_4 n_5 b_4 x_8 x_9 x_10 x_11 x_12 x_13 n_6 n_7))] R/\∀ (x_14 : AL) (n_8 n_9 : Int) (b_5 : Bool) (x_15 x_16 x_17 x_18 x_19 x_20 : AL) (n_10 n_11 : Int) (S1 :
 St),R (.agg (ps x_14 n_8 n_9 b_5 x_15 x_16 x_17 x_18 x_19 x_20 n_10 n_11)) S1->∃ R,hk.1 106 [.agg (ps x_14 n_8 n_9 b_5 x_15 x_16 x_17 x_18 x_19 x_20 n_10 n_11)] S1 [(90,(ps x n n_1 b x_1 x_2 x_3 x_4 x_5 x_6 n_2 n_3)),(90,ps0),(90,(ps x_7 n_4 n_5 b_4 x_8 x_9 x_10 x_11 x_12 x_13 n_6 n_7))] R/\∀ (x_21 : AL) (n_12 n_13 : Int) (b_6 : Bool) (x_22 x_23 x_24 x_25 x_26 x_27 : AL) (n_14
 n_15 : Int) (s_1 : ByteArray) (S1 : St),R (.tup [.agg (ps x_21 n_12 n_13 b_6 x_22 x_23 x_24 x_25 x_26 x_27 n_14 n_15),.one (.str s_1)]) S1->∃ R,hk.1 80 [.agg (ps x_21 n_12 n_13 b_6 x_22 x_23 x_24 x_25 x_26 x_27 n_14 n_15),.one (.str k14)] S1 [(90,(ps x n n_1 b x_1 x_2 x_3 x_4 x_5 x_6 n_2 n_3)),(90,ps0),(90,(ps x_7 n_4 n_5 b_4 x_8 x_9 x_10 x_11 x_12 x_13 n_6 n_7)),(90,(ps x_21
 n_12 n_13 b_6 x_22 x_23 x_24 x_25 x_26 x_27 n_14 n_15))] R/\∀ (x_28 : AL) (n_16 n_17 : Int) (b_7 : Bool) (x_29 x_30 x_31 x_32 x_33 x_34 : AL) (n_18 n_19 : Int) (S1 : St),R (.agg (ps x_28 n_16 n_17 b_7 x_29 x_30 x_31 x_32 x_33 x_34 n_18 n_19)) S1->∃ R,hk.1 107 [.agg (ps x_28 n_16 n_17 b_7 x_29 x_30 x_31 x_32 x_33 x_34 n_18 n_19),.agg [.str s_1,.str k23,.str s]] S1 [(90,(ps x n
 n_1 b x_1 x_2 x_3 x_4 x_5 x_6 n_2 n_3)),(90,ps0),(90,(ps x_7 n_4 n_5 b_4 x_8 x_9 x_10 x_11 x_12 x_13 n_6 n_7)),(90,(ps x_21 n_12 n_13 b_6 x_22 x_23 x_24 x_25 x_26 x_27 n_14 n_15))] R/\∀ (x : AL) (n n_20 : Int) (b : Bool) (x_35 x_36 x_37 x_38 x_39 x_40 : AL) (n_21 n_22 : Int) (S1 : St),R (.agg (ps x n n_20 b x_35 x_36 x_37 x_38 x_39 x_40 n_21 n_22)) S1->true=true/\Q (.agg (ps x
 n n_20 b x_35 x_36 x_37 x_38 x_39 x_40 n_21 n_22)) S1)/\(b_3=false->∃ R,hk.1 106 [.agg (ps x n n_1 b x_1 x_2 x_3 x_4 x_5 x_6 n_2 n_3)] S1 [(90,(ps x n n_1 b x_1 x_2 x_3 x_4 x_5 x_6 n_2 n_3)),(90,ps0)] R/\∀ (x_7 : AL) (n_4 n_5 : Int) (b_4 : Bool) (x_8 x_9 x_10 x_11 x_12 x_13 : AL) (n_6 n_7 : Int) (s : ByteArray) (S1 : St),R (.tup [.agg (ps x_7 n_4 n_5 b_4 x_8 x_9 x_10 x_11 x_12
 x_13 n_6 n_7),.one (.str s)]) S1->∃ R,hk.1 80 [.agg (ps x_7 n_4 n_5 b_4 x_8 x_9 x_10 x_11 x_12 x_13 n_6 n_7),.one (.str k14)] S1 [(90,(ps x n n_1 b x_1 x_2 x_3 x_4 x_5 x_6 n_2 n_3)),(90,ps0),(90,(ps x_7 n_4 n_5 b_4 x_8 x_9 x_10 x_11 x_12 x_13 n_6 n_7))] R/\∀ (x : AL) (n n_8 : Int) (b : Bool) (x_14 x_15 x_16 x_17 x_18 x_19 : AL) (n_9 n_10 : Int) (S1 : St),R (.agg (ps x n n_8 b
 x_14 x_15 x_16 x_17 x_18 x_19 n_9 n_10)) S1->true=true/\Q (.agg (ps x n n_8 b x_14 x_15 x_16 x_17 x_18 x_19 n_9 n_10))
 S1))))
 := by intros; kernel_rfl
theorem b76_0 : ∀ (hk : Hk) (x : AL) (s : ByteArray) (n8 : Int) (xL0_0 : AL) (nL0_1 nL0_2 : Int) (bL0_3 : Bool) (xL0_4 xL0_5 xL0_6 xL0_7 xL0_8 xL0_9 : AL) (nL0_10 nL0_11 : Int) (xL1_0 : AL) (nL1_1 nL1_2 : Int) (bL1_3 : Bool) (xL1_4 xL1_5 xL1_6 xL1_7 xL1_8 xL1_9 : AL) (nL1_10 nL1_11 : Int) (xL2_0 : AL) (nL2_1 nL2_2 : Int) (bL2_3 : Bool) (xL2_4 xL2_5 xL2_6 xL2_7 xL2_8 xL2_9 : AL)
 (nL2_10 nL2_11 : Int) (xL3_0 : AL) (nL3_1 nL3_2 : Int) (bL3_3 : Bool) (xL3_4 xL3_5 xL3_6 xL3_7 xL3_8 xL3_9 : AL) (nL3_10 nL3_11 : Int) (S : St) (K : QW),wCode true hk Tryz.prog (tabOf Tryz.prog) 108 Proofs.YtkdickfiifpblaaGreatDoor.D.pl76 1000 (codeOf Tryz.prog 76 [1,1,0,0,1,0,1,1,1,0,1,0,0]) [] (fun e env S L => K e (restr [8,7,4,2,1] env) S L) [(8,.v (.one (.i n8))),(7,.v
 (.one (.str s))),(4,.v (.one x)),(2,.loc 1 0),(1,.loc 0 0)] S [(90,(ps xL0_0 nL0_1 nL0_2 bL0_3 xL0_4 xL0_5 xL0_6 xL0_7 xL0_8 xL0_9 nL0_10 nL0_11)),(90,(ps xL1_0 nL1_1 nL1_2 bL1_3 xL1_4 xL1_5 xL1_6 xL1_7 xL1_8 xL1_9 nL1_10 nL1_11)),(90,(ps xL2_0 nL2_1 nL2_2 bL2_3 xL2_4 xL2_5 xL2_6 xL2_7 xL2_8 xL2_9 nL2_10 nL2_11)),(90,(ps xL3_0 nL3_1 nL3_2 bL3_3 xL3_4 xL3_5 xL3_6 xL3_7 xL3_8
 xL3_9 nL3_10 nL3_11))]=∃ n,x.len?=some n/\(decide (n8 < (↑n : Int))=true->true=true/\∃ tok n xs,x=.sl tok n xs/\0<=n8/\n8 < (↑n : Int)/\∃ tok n xs_1,x=.sl tok n xs_1/\0<=n8/\n8 < (↑n : Int)/\(((∃ x,likeCells [.str k_] [x]=true/\(List.drop 2 (List.drop (n8.toNat * 4) xs))[0]?=some x)/\∀ (s_1 : ByteArray),(List.drop 2 (List.drop (n8.toNat * 4) xs))[0]?=some (.str s_1)->((∃
 x,likeCells [.str k_] [x]=true/\(List.drop 1 (List.drop (n8.toNat * 4) xs_1))[0]?=some x)/\∀ (s_2 : ByteArray),(List.drop 1 (List.drop (n8.toNat * 4) xs_1))[0]?=some (.str s_2)->(∃ R,hk.1 107 [.agg (ps xL0_0 nL0_1 nL0_2 bL0_3 xL0_4 xL0_5 xL0_6 xL0_7 xL0_8 xL0_9 nL0_10 nL0_11),.agg [.str s,.str s_1,.str s_2]] S [(90,(ps xL0_0 nL0_1 nL0_2 bL0_3 xL0_4 xL0_5 xL0_6 xL0_7 xL0_8 xL0_9
 nL0_10 nL0_11)),(90,(ps xL1_0 nL1_1 nL1_2 bL1_3 xL1_4 xL1_5 xL1_6 xL1_7 xL1_8 xL1_9 nL1_10 nL1_11)),(90,(ps xL2_0 nL2_1 nL2_2 bL2_3 xL2_4 xL2_5 xL2_6 xL2_7 xL2_8 xL2_9 nL2_10 nL2_11)),(90,(ps xL3_0 nL3_1 nL3_2 bL3_3 xL3_4 xL3_5 xL3_6 xL3_7 xL3_8 xL3_9 nL3_10 nL3_11))] R/\∀ (x_1 : AL) (n n_1 : Int) (b : Bool) (x_2 x_3 x_4 x_5 x_6 x_7 : AL) (n_2 n_3 : Int) (S1 : St),R (.agg (ps
 x_1 n n_1 b x_2 x_3 x_4 x_5 x_6 x_7 n_2 n_3)) S1->(in64 (n8 + 1)/\K .normal [(8,.v (.one (.i (n8 + 1)))),(7,.v (.one (.str s))),(4,.v (.one x)),(2,.loc 1 0),(1,.loc 0 0)] S1 [(90,(ps x_1 n n_1 b x_2 x_3 x_4 x_5 x_6 x_7 n_2 n_3)),(90,(ps xL1_0 nL1_1 nL1_2 bL1_3 xL1_4 xL1_5 xL1_6 xL1_7 xL1_8 xL1_9 nL1_10 nL1_11)),(90,(ps xL2_0 nL2_1 nL2_2 bL2_3 xL2_4 xL2_5 xL2_6 xL2_7 xL2_8 xL2_9
 nL2_10 nL2_11)),(90,(ps xL3_0 nL3_1 nL3_2 bL3_3 xL3_4 xL3_5 xL3_6 xL3_7 xL3_8 xL3_9 nL3_10 nL3_11))])/\True)/\True)/\True)/\((∃ x,likeCells [.str k_] [x]=true/\(List.drop 1 (List.drop (n8.toNat * 4) xs_1))[0]?=some x)/\∀ (s_1 : ByteArray),(List.drop 1 (List.drop (n8.toNat * 4) xs_1))[0]?=some (.str s_1)->((∃ x,likeCells [.str k_] [x]=true/\(List.drop 2 (List.drop (n8.toNat * 4)
 xs))[0]?=some x)/\∀ (s_2 : ByteArray),(List.drop 2 (List.drop (n8.toNat * 4) xs))[0]?=some (.str s_2)->(∃ R,hk.1 107 [.agg (ps xL0_0 nL0_1 nL0_2 bL0_3 xL0_4 xL0_5 xL0_6 xL0_7 xL0_8 xL0_9 nL0_10 nL0_11),.agg [.str s,.str s_2,.str s_1]] S [(90,(ps xL0_0 nL0_1 nL0_2 bL0_3 xL0_4 xL0_5 xL0_6 xL0_7 xL0_8 xL0_9 nL0_10 nL0_11)),(90,(ps xL1_0 nL1_1 nL1_2 bL1_3 xL1_4 xL1_5 xL1_6 xL1_7
 xL1_8 xL1_9 nL1_10 nL1_11)),(90,(ps xL2_0 nL2_1 nL2_2 bL2_3 xL2_4 xL2_5 xL2_6 xL2_7 xL2_8 xL2_9 nL2_10 nL2_11)),(90,(ps xL3_0 nL3_1 nL3_2 bL3_3 xL3_4 xL3_5 xL3_6 xL3_7 xL3_8 xL3_9 nL3_10 nL3_11))] R/\∀ (x_1 : AL) (n n_1 : Int) (b : Bool) (x_2 x_3 x_4 x_5 x_6 x_7 : AL) (n_2 n_3 : Int) (S1 : St),R (.agg (ps x_1 n n_1 b x_2 x_3 x_4 x_5 x_6 x_7 n_2 n_3)) S1->(in64 (n8 + 1)/\K
 .normal [(8,.v (.one (.i (n8 + 1)))),(7,.v (.one (.str s))),(4,.v (.one x)),(2,.loc 1 0),(1,.loc 0 0)] S1 [(90,(ps x_1 n n_1 b x_2 x_3 x_4 x_5 x_6 x_7 n_2 n_3)),(90,(ps xL1_0 nL1_1 nL1_2 bL1_3 xL1_4 xL1_5 xL1_6 xL1_7 xL1_8 xL1_9 nL1_10 nL1_11)),(90,(ps xL2_0 nL2_1 nL2_2 bL2_3 xL2_4 xL2_5 xL2_6 xL2_7 xL2_8 xL2_9 nL2_10 nL2_11)),(90,(ps xL3_0 nL3_1 nL3_2 bL3_3 xL3_4 xL3_5 xL3_6
 xL3_7 xL3_8 xL3_9 nL3_10 nL3_11))])/\True)/\True)/\True)/\True)/\((∃ x,likeCells [.str k_] [x]=true/\(List.drop 2 (List.drop (n8.toNat * 4) xs))[0]?=some x)/\∀ (s_1 : ByteArray),(List.drop 2 (List.drop (n8.toNat * 4) xs))[0]?=some (.str s_1)->(((∃ x,likeCells [.str k_] [x]=true/\(List.drop 1 (List.drop (n8.toNat * 4) xs_1))[0]?=some x)/\∀ (s_2 : ByteArray),(List.drop 1
 (List.drop (n8.toNat * 4) xs_1))[0]?=some (.str s_2)->(∃ R,hk.1 107 [.agg (ps xL0_0 nL0_1 nL0_2 bL0_3 xL0_4 xL0_5 xL0_6 xL0_7 xL0_8 xL0_9 nL0_10 nL0_11),.agg [.str s,.str s_1,.str s_2]] S [(90,(ps xL0_0 nL0_1 nL0_2 bL0_3 xL0_4 xL0_5 xL0_6 xL0_7 xL0_8 xL0_9 nL0_10 nL0_11)),(90,(ps xL1_0 nL1_1 nL1_2 bL1_3 xL1_4 xL1_5 xL1_6 xL1_7 xL1_8 xL1_9 nL1_10 nL1_11)),(90,(ps xL2_0 nL2_1
 nL2_2 bL2_3 xL2_4 xL2_5 xL2_6 xL2_7 xL2_8 xL2_9 nL2_10 nL2_11)),(90,(ps xL3_0 nL3_1 nL3_2 bL3_3 xL3_4 xL3_5 xL3_6 xL3_7 xL3_8 xL3_9 nL3_10 nL3_11))] R/\∀ (x_1 : AL) (n n_1 : Int) (b : Bool) (x_2 x_3 x_4 x_5 x_6 x_7 : AL) (n_2 n_3 : Int) (S1 : St),R (.agg (ps x_1 n n_1 b x_2 x_3 x_4 x_5 x_6 x_7 n_2 n_3)) S1->(in64 (n8 + 1)/\K .normal [(8,.v (.one (.i (n8 + 1)))),(7,.v (.one
 (.str s))),(4,.v (.one x)),(2,.loc 1 0),(1,.loc 0 0)] S1 [(90,(ps x_1 n n_1 b x_2 x_3 x_4 x_5 x_6 x_7 n_2 n_3)),(90,(ps xL1_0 nL1_1 nL1_2 bL1_3 xL1_4 xL1_5 xL1_6 xL1_7 xL1_8 xL1_9 nL1_10 nL1_11)),(90,(ps xL2_0 nL2_1 nL2_2 bL2_3 xL2_4 xL2_5 xL2_6 xL2_7 xL2_8 xL2_9 nL2_10 nL2_11)),(90,(ps xL3_0 nL3_1 nL3_2 bL3_3 xL3_4 xL3_5 xL3_6 xL3_7 xL3_8 xL3_9 nL3_10
 nL3_11))])/\True)/\True)/\True)/\((∃ x,likeCells [.str k_] [x]=true/\(List.drop 1 (List.drop (n8.toNat * 4) xs_1))[0]?=some x)/\∀ (s_2 : ByteArray),(List.drop 1 (List.drop (n8.toNat * 4) xs_1))[0]?=some (.str s_2)->((∃ R,hk.1 107 [.agg (ps xL0_0 nL0_1 nL0_2 bL0_3 xL0_4 xL0_5 xL0_6 xL0_7 xL0_8 xL0_9 nL0_10 nL0_11),.agg [.str s,.str s_1,.str s_2]] S [(90,(ps xL0_0 nL0_1 nL0_2
 bL0_3 xL0_4 xL0_5 xL0_6 xL0_7 xL0_8 xL0_9 nL0_10 nL0_11)),(90,(ps xL1_0 nL1_1 nL1_2 bL1_3 xL1_4 xL1_5 xL1_6 xL1_7 xL1_8 xL1_9 nL1_10 nL1_11)),(90,(ps xL2_0 nL2_1 nL2_2 bL2_3 xL2_4 xL2_5 xL2_6 xL2_7 xL2_8 xL2_9 nL2_10 nL2_11)),(90,(ps xL3_0 nL3_1 nL3_2 bL3_3 xL3_4 xL3_5 xL3_6 xL3_7 xL3_8 xL3_9 nL3_10 nL3_11))] R/\∀ (x_1 : AL) (n n_1 : Int) (b : Bool) (x_2 x_3 x_4 x_5 x_6 x_7 :
 AL) (n_2 n_3 : Int) (S1 : St),R (.agg (ps x_1 n n_1 b x_2 x_3 x_4 x_5 x_6 x_7 n_2 n_3)) S1->(in64 (n8 + 1)/\K .normal [(8,.v (.one (.i (n8 + 1)))),(7,.v (.one (.str s))),(4,.v (.one x)),(2,.loc 1 0),(1,.loc 0 0)] S1 [(90,(ps x_1 n n_1 b x_2 x_3 x_4 x_5 x_6 x_7 n_2 n_3)),(90,(ps xL1_0 nL1_1 nL1_2 bL1_3 xL1_4 xL1_5 xL1_6 xL1_7 xL1_8 xL1_9 nL1_10 nL1_11)),(90,(ps xL2_0 nL2_1 nL2_2
 bL2_3 xL2_4 xL2_5 xL2_6 xL2_7 xL2_8 xL2_9 nL2_10 nL2_11)),(90,(ps xL3_0 nL3_1 nL3_2 bL3_3 xL3_4 xL3_5 xL3_6 xL3_7 xL3_8 xL3_9 nL3_10 nL3_11))])/\True)/\True)/\True)/\True)/\((∃ x,likeCells [.str k_] [x]=true/\(List.drop 1 (List.drop (n8.toNat * 4) xs_1))[0]?=some x)/\∀ (s_1 : ByteArray),(List.drop 1 (List.drop (n8.toNat * 4) xs_1))[0]?=some (.str s_1)->(((∃ x,likeCells [.str
 k_] [x]=true/\(List.drop 2 (List.drop (n8.toNat * 4) xs))[0]?=some x)/\∀ (s_2 : ByteArray),(List.drop 2 (List.drop (n8.toNat * 4) xs))[0]?=some (.str s_2)->(∃ R,hk.1 107 [.agg (ps xL0_0 nL0_1 nL0_2 bL0_3 xL0_4 xL0_5 xL0_6 xL0_7 xL0_8 xL0_9 nL0_10 nL0_11),.agg [.str s,.str s_2,.str s_1]] S [(90,(ps xL0_0 nL0_1 nL0_2 bL0_3 xL0_4 xL0_5 xL0_6 xL0_7 xL0_8 xL0_9 nL0_10
 nL0_11)),(90,(ps xL1_0 nL1_1 nL1_2 bL1_3 xL1_4 xL1_5 xL1_6 xL1_7 xL1_8 xL1_9 nL1_10 nL1_11)),(90,(ps xL2_0 nL2_1 nL2_2 bL2_3 xL2_4 xL2_5 xL2_6 xL2_7 xL2_8 xL2_9 nL2_10 nL2_11)),(90,(ps xL3_0 nL3_1 nL3_2 bL3_3 xL3_4 xL3_5 xL3_6 xL3_7 xL3_8 xL3_9 nL3_10 nL3_11))] R/\∀ (x_1 : AL) (n n_1 : Int) (b : Bool) (x_2 x_3 x_4 x_5 x_6 x_7 : AL) (n_2 n_3 : Int) (S1 : St),R (.agg (ps x_1 n
 n_1 b x_2 x_3 x_4 x_5 x_6 x_7 n_2 n_3)) S1->(in64 (n8 + 1)/\K .normal [(8,.v (.one (.i (n8 + 1)))),(7,.v (.one (.str s))),(4,.v (.one x)),(2,.loc 1 0),(1,.loc 0 0)] S1 [(90,(ps x_1 n n_1 b x_2 x_3 x_4 x_5 x_6 x_7 n_2 n_3)),(90,(ps xL1_0 nL1_1 nL1_2 bL1_3 xL1_4 xL1_5 xL1_6 xL1_7 xL1_8 xL1_9 nL1_10 nL1_11)),(90,(ps xL2_0 nL2_1 nL2_2 bL2_3 xL2_4 xL2_5 xL2_6 xL2_7 xL2_8 xL2_9
 nL2_10 nL2_11)),(90,(ps xL3_0 nL3_1 nL3_2 bL3_3 xL3_4 xL3_5 xL3_6 xL3_7 xL3_8 xL3_9 nL3_10 nL3_11))])/\True)/\True)/\True)/\((∃ x,likeCells [.str k_] [x]=true/\(List.drop 2 (List.drop (n8.toNat * 4) xs))[0]?=some x)/\∀ (s_2 : ByteArray),(List.drop 2 (List.drop (n8.toNat * 4) xs))[0]?=some (.str s_2)->((∃ R,hk.1 107 [.agg (ps xL0_0 nL0_1 nL0_2 bL0_3 xL0_4 xL0_5 xL0_6 xL0_7 xL0_8
 xL0_9 nL0_10 nL0_11),.agg [.str s,.str s_2,.str s_1]] S [(90,(ps xL0_0 nL0_1 nL0_2 bL0_3 xL0_4 xL0_5 xL0_6 xL0_7 xL0_8 xL0_9 nL0_10 nL0_11)),(90,(ps xL1_0 nL1_1 nL1_2 bL1_3 xL1_4 xL1_5 xL1_6 xL1_7 xL1_8 xL1_9 nL1_10 nL1_11)),(90,(ps xL2_0 nL2_1 nL2_2 bL2_3 xL2_4 xL2_5 xL2_6 xL2_7 xL2_8 xL2_9 nL2_10 nL2_11)),(90,(ps xL3_0 nL3_1 nL3_2 bL3_3 xL3_4 xL3_5 xL3_6 xL3_7 xL3_8 xL3_9
 nL3_10 nL3_11))] R/\∀ (x_1 : AL) (n n_1 : Int) (b : Bool) (x_2 x_3 x_4 x_5 x_6 x_7 : AL) (n_2 n_3 : Int) (S1 : St),R (.agg (ps x_1 n n_1 b x_2 x_3 x_4 x_5 x_6 x_7 n_2 n_3)) S1->(in64 (n8 + 1)/\K .normal [(8,.v (.one (.i (n8 + 1)))),(7,.v (.one (.str s))),(4,.v (.one x)),(2,.loc 1 0),(1,.loc 0 0)] S1 [(90,(ps x_1 n n_1 b x_2 x_3 x_4 x_5 x_6 x_7 n_2 n_3)),(90,(ps xL1_0 nL1_1
 nL1_2 bL1_3 xL1_4 xL1_5 xL1_6 xL1_7 xL1_8 xL1_9 nL1_10 nL1_11)),(90,(ps xL2_0 nL2_1 nL2_2 bL2_3 xL2_4 xL2_5 xL2_6 xL2_7 xL2_8 xL2_9 nL2_10 nL2_11)),(90,(ps xL3_0 nL3_1 nL3_2 bL3_3 xL3_4 xL3_5 xL3_6 xL3_7 xL3_8 xL3_9 nL3_10 nL3_11))])/\True)/\True)/\True)/\True)/\True)/\(decide (n8 < (↑n : Int))=false->K (.exit 1) [(8,.v (.one (.i n8))),(7,.v (.one (.str s))),(4,.v (.one
 x)),(2,.loc 1 0),(1,.loc 0 0)] S [(90,(ps xL0_0 nL0_1 nL0_2 bL0_3 xL0_4 xL0_5 xL0_6 xL0_7 xL0_8 xL0_9 nL0_10 nL0_11)),(90,(ps xL1_0 nL1_1 nL1_2 bL1_3 xL1_4 xL1_5 xL1_6 xL1_7 xL1_8 xL1_9 nL1_10 nL1_11)),(90,(ps xL2_0 nL2_1 nL2_2 bL2_3 xL2_4 xL2_5 xL2_6 xL2_7 xL2_8 xL2_9 nL2_10 nL2_11)),(90,(ps xL3_0 nL3_1 nL3_2 bL3_3 xL3_4 xL3_5 xL3_6 xL3_7 xL3_8 xL3_9 nL3_10
 nL3_11))])
 := by intros; kernel_rfl
theorem x76_0 : ∀ (hk : Hk) (S : St) (Q : AV->St->Prop) (x : AL) (s : ByteArray) (n8 : Int) (xL0_0 : AL) (nL0_1 nL0_2 : Int) (bL0_3 : Bool) (xL0_4 xL0_5 xL0_6 xL0_7 xL0_8 xL0_9 : AL) (nL0_10 nL0_11 : Int) (xL1_0 : AL) (nL1_1 nL1_2 : Int) (bL1_3 : Bool) (xL1_4 xL1_5 xL1_6 xL1_7 xL1_8 xL1_9 : AL) (nL1_10 nL1_11 : Int) (xL2_0 : AL) (nL2_1 nL2_2 : Int) (bL2_3 : Bool) (xL2_4 xL2_5
 xL2_6 xL2_7 xL2_8 xL2_9 : AL) (nL2_10 nL2_11 : Int) (xL3_0 : AL) (nL3_1 nL3_2 : Int) (bL3_3 : Bool) (xL3_4 xL3_5 xL3_6 xL3_7 xL3_8 xL3_9 : AL) (nL3_10 nL3_11 : Int) (S_1 : St),wCode.wEx true hk Tryz.prog (tabOf Tryz.prog) 108 Proofs.YtkdickfiifpblaaGreatDoor.D.pl76 1000 (.exit 1) [.blk 1,.seq (codeOf Tryz.prog 76 [1,1,0,0,1,0,1,1,1,1]),.blk 0,.seq (codeOf Tryz.prog 76 [1,1,1])]
 (wEnd (tabOf Tryz.prog) Tryz.f76 false S.boxes.length Q) [(8,.v (.one (.i n8))),(7,.v (.one (.str s))),(4,.v (.one x)),(2,.loc 1 0),(1,.loc 0 0)] S_1 [(90,(ps xL0_0 nL0_1 nL0_2 bL0_3 xL0_4 xL0_5 xL0_6 xL0_7 xL0_8 xL0_9 nL0_10 nL0_11)),(90,(ps xL1_0 nL1_1 nL1_2 bL1_3 xL1_4 xL1_5 xL1_6 xL1_7 xL1_8 xL1_9 nL1_10 nL1_11)),(90,(ps xL2_0 nL2_1 nL2_2 bL2_3 xL2_4 xL2_5 xL2_6 xL2_7 xL2_8
 xL2_9 nL2_10 nL2_11)),(90,(ps xL3_0 nL3_1 nL3_2 bL3_3 xL3_4 xL3_5 xL3_6 xL3_7 xL3_8 xL3_9 nL3_10 nL3_11))]=(true=true/\Q (.agg (ps xL0_0 nL0_1 nL0_2 bL0_3 xL0_4 xL0_5 xL0_6 xL0_7 xL0_8 xL0_9 nL0_10 nL0_11))
 S_1)
 := by intros; kernel_rfl
theorem v77 : ∀ (hk : Hk) (x0_0 : AL) (n0_1 n0_2 : Int) (b0_3 : Bool) (x0_4 x0_5 x0_6 x0_7 x0_8 x0_9 : AL) (n0_10 n0_11 : Int) (S : St) (Q : AV->St->Prop),wFn true hk Tryz.prog (tabOf Tryz.prog) Proofs.YtkdickfiifpblaaGreatDoor.D.pl77 false 77 [.agg (ps x0_0 n0_1 n0_2 b0_3 x0_4 x0_5 x0_6 x0_7 x0_8 x0_9 n0_10 n0_11)] S Q=(true=true/\∃ R,hk.1 82 [.agg (ps x0_0 n0_1 n0_2 b0_3 x0_4
 x0_5 x0_6 x0_7 x0_8 x0_9 n0_10 n0_11),.one (.str k18)] S [(90,(ps x0_0 n0_1 n0_2 b0_3 x0_4 x0_5 x0_6 x0_7 x0_8 x0_9 n0_10 n0_11)),(90,ps0)] R/\∀ (x : AL) (n n_1 : Int) (b : Bool) (x_1 x_2 x_3 x_4 x_5 x_6 : AL) (n_2 n_3 : Int) (S1 : St),R (.agg (ps x n n_1 b x_1 x_2 x_3 x_4 x_5 x_6 n_2 n_3)) S1->∃ R,hk.1 75 [.agg (ps x n n_1 b x_1 x_2 x_3 x_4 x_5 x_6 n_2 n_3),.one (.i 4),.one
 (.str k8)] S1 [(90,(ps x n n_1 b x_1 x_2 x_3 x_4 x_5 x_6 n_2 n_3)),(90,ps0)] R/\∀ (b_1 : Bool) (S1 : St),R (.one (.bool b_1)) S1->(b_1=true->∃ R,hk.1 105 [.agg (ps x n n_1 b x_1 x_2 x_3 x_4 x_5 x_6 n_2 n_3),.one (.bool true)] S1 [(90,(ps x n n_1 b x_1 x_2 x_3 x_4 x_5 x_6 n_2 n_3)),(90,ps0)] R/\∀ (x_7 : AL) (n_4 n_5 : Int) (b_2 : Bool) (x_8 x_9 x_10 x_11 x_12 x_13 : AL) (n_6 n_7
 : Int) (x_14 : AL) (b_3 : Bool) (S1 : St),R (.tup [.agg (ps x_7 n_4 n_5 b_2 x_8 x_9 x_10 x_11 x_12 x_13 n_6 n_7),.one x_14,.one (.bool b_3)]) S1->((!b_3)=true->∃ R,hk.1 75 [.agg (ps x_7 n_4 n_5 b_2 x_8 x_9 x_10 x_11 x_12 x_13 n_6 n_7),.one (.i 1),.one (.str k22)] S1 [(90,(ps x n n_1 b x_1 x_2 x_3 x_4 x_5 x_6 n_2 n_3)),(90,ps0),(90,(ps x_7 n_4 n_5 b_2 x_8 x_9 x_10 x_11 x_12 x_13
 n_6 n_7))] R/\∀ (b_4 : Bool) (S1 : St),R (.one (.bool b_4)) S1->((!b_4)=true->∃ R,hk.1 80 [.agg (ps x_7 n_4 n_5 b_2 x_8 x_9 x_10 x_11 x_12 x_13 n_6 n_7),.one (.str k14)] S1 [(90,(ps x n n_1 b x_1 x_2 x_3 x_4 x_5 x_6 n_2 n_3)),(90,ps0),(90,(ps x_7 n_4 n_5 b_2 x_8 x_9 x_10 x_11 x_12 x_13 n_6 n_7))] R/\∀ (x_15 : AL) (n_8 n_9 : Int) (b_5 : Bool) (x_16 x_17 x_18 x_19 x_20 x_21 : AL)
 (n_10 n_11 : Int) (S1 : St),R (.agg (ps x_15 n_8 n_9 b_5 x_16 x_17 x_18 x_19 x_20 x_21 n_10 n_11)) S1->hk.2 140 (codeOf Tryz.prog 77 [1,1,0,0,1,0,1,0,1,0,1,0,1,0,0]) [.blk 1,.seq (codeOf Tryz.prog 77 [1,1,0,0,1,0,1,0,1,0,1,1]),.seq (codeOf Tryz.prog 77 [1,1,0,0,1,0,1,1]),.blk 0,.seq (codeOf Tryz.prog 77 [1,1,1])] (wEnd (tabOf Tryz.prog) Tryz.f77 false S.boxes.length Q) [(6,.v
 (.one (.i 0))),(36,.v (.agg (ps x_15 n_8 n_9 b_5 x_16 x_17 x_18 x_19 x_20 x_21 n_10 n_11))),(35,.v (.agg (ps x_7 n_4 n_5 b_2 x_8 x_9 x_10 x_11 x_12 x_13 n_6 n_7))),(34,.v (.one (.bool !b_4))),(33,.v (.one (.bool !b_4))),(32,.v (.one (.bool b_4))),(31,.v (.agg (ps x_7 n_4 n_5 b_2 x_8 x_9 x_10 x_11 x_12 x_13 n_6 n_7))),(30,.kb true),(29,.v (.one (.bool !b_3))),(28,.v (.one (.bool
 b_3))),(5,.v (.one (.bool b_3))),(4,.v (.one x_14)),(3,.loc 2 0),(27,.v (.one (.bool b_3))),(26,.v (.one x_14)),(25,.v (.agg (ps x_7 n_4 n_5 b_2 x_8 x_9 x_10 x_11 x_12 x_13 n_6 n_7))),(22,.v (.tup [.agg (ps x_7 n_4 n_5 b_2 x_8 x_9 x_10 x_11 x_12 x_13 n_6 n_7),.one x_14,.one (.bool b_3)])),(24,.v (.tup [.agg (ps x_7 n_4 n_5 b_2 x_8 x_9 x_10 x_11 x_12 x_13 n_6 n_7),.one x_14,.one
 (.bool b_3)])),(23,.v (.agg (ps x n n_1 b x_1 x_2 x_3 x_4 x_5 x_6 n_2 n_3))),(19,.v (.one (.bool b_1))),(21,.v (.one (.bool b_1))),(20,.v (.agg (ps x n n_1 b x_1 x_2 x_3 x_4 x_5 x_6 n_2 n_3))),(18,.v (.agg (ps x n n_1 b x_1 x_2 x_3 x_4 x_5 x_6 n_2 n_3))),(17,.v (.agg (ps x0_0 n0_1 n0_2 b0_3 x0_4 x0_5 x0_6 x0_7 x0_8 x0_9 n0_10 n0_11))),(2,.loc 1 0),(1,.loc 0 0),(0,.v (.agg (ps
 x0_0 n0_1 n0_2 b0_3 x0_4 x0_5 x0_6 x0_7 x0_8 x0_9 n0_10 n0_11)))] S1 [(90,(ps x_15 n_8 n_9 b_5 x_16 x_17 x_18 x_19 x_20 x_21 n_10 n_11)),(90,ps0),(90,(ps x_7 n_4 n_5 b_2 x_8 x_9 x_10 x_11 x_12 x_13 n_6 n_7))])/\((!b_4)=false->∃ R,hk.1 82 [.agg (ps x_7 n_4 n_5 b_2 x_8 x_9 x_10 x_11 x_12 x_13 n_6 n_7),.one (.str k22)] S1 [(90,(ps x n n_1 b x_1 x_2 x_3 x_4 x_5 x_6 n_2
 n_3)),(90,ps0),(90,(ps x_7 n_4 n_5 b_2 x_8 x_9 x_10 x_11 x_12 x_13 n_6 n_7))] R/\∀ (x_15 : AL) (n_8 n_9 : Int) (b_5 : Bool) (x_16 x_17 x_18 x_19 x_20 x_21 : AL) (n_10 n_11 : Int) (S1 : St),R (.agg (ps x_15 n_8 n_9 b_5 x_16 x_17 x_18 x_19 x_20 x_21 n_10 n_11)) S1->∃ R,hk.1 106 [.agg (ps x_15 n_8 n_9 b_5 x_16 x_17 x_18 x_19 x_20 x_21 n_10 n_11)] S1 [(90,(ps x n n_1 b x_1 x_2 x_3
 x_4 x_5 x_6 n_2 n_3)),(90,ps0),(90,(ps x_7 n_4 n_5 b_2 x_8 x_9 x_10 x_11 x_12 x_13 n_6 n_7))] R/\∀ (x_22 : AL) (n_12 n_13 : Int) (b_6 : Bool) (x_23 x_24 x_25 x_26 x_27 x_28 : AL) (n_14 n_15 : Int) (s : ByteArray) (S1 : St),R (.tup [.agg (ps x_22 n_12 n_13 b_6 x_23 x_24 x_25 x_26 x_27 x_28 n_14 n_15),.one (.str s)]) S1->∃ R,hk.1 80 [.agg (ps x_22 n_12 n_13 b_6 x_23 x_24 x_25
 x_26 x_27 x_28 n_14 n_15),.one (.str k14)] S1 [(90,(ps x n n_1 b x_1 x_2 x_3 x_4 x_5 x_6 n_2 n_3)),(90,ps0),(90,(ps x_7 n_4 n_5 b_2 x_8 x_9 x_10 x_11 x_12 x_13 n_6 n_7)),(90,(ps x_22 n_12 n_13 b_6 x_23 x_24 x_25 x_26 x_27 x_28 n_14 n_15))] R/\∀ (x_29 : AL) (n_16 n_17 : Int) (b_7 : Bool) (x_30 x_31 x_32 x_33 x_34 x_35 : AL) (n_18 n_19 : Int) (S1 : St),R (.agg (ps x_29 n_16 n_17
 b_7 x_30 x_31 x_32 x_33 x_34 x_35 n_18 n_19)) S1->hk.2 140 (codeOf Tryz.prog 77 [1,1,0,0,1,0,1,1,1,1,0,1,0,0]) [.blk 3,.seq (codeOf Tryz.prog 77 [1,1,0,0,1,0,1,1,1,1,1]),.blk 0,.seq (codeOf Tryz.prog 77 [1,1,1])] (wEnd (tabOf Tryz.prog) Tryz.f77 false S.boxes.length Q) [(9,.v (.one (.i 0))),(64,.v (.agg (ps x_29 n_16 n_17 b_7 x_30 x_31 x_32 x_33 x_34 x_35 n_18 n_19))),(63,.v
 (.agg (ps x_22 n_12 n_13 b_6 x_23 x_24 x_25 x_26 x_27 x_28 n_14 n_15))),(8,.v (.one (.str s))),(7,.loc 3 0),(62,.v (.one (.str s))),(61,.v (.agg (ps x_22 n_12 n_13 b_6 x_23 x_24 x_25 x_26 x_27 x_28 n_14 n_15))),(57,.v (.tup [.agg (ps x_22 n_12 n_13 b_6 x_23 x_24 x_25 x_26 x_27 x_28 n_14 n_15),.one (.str s)])),(60,.v (.tup [.agg (ps x_22 n_12 n_13 b_6 x_23 x_24 x_25 x_26 x_27
 x_28 n_14 n_15),.one (.str s)])),(59,.v (.agg (ps x_15 n_8 n_9 b_5 x_16 x_17 x_18 x_19 x_20 x_21 n_10 n_11))),(58,.v (.agg (ps x_7 n_4 n_5 b_2 x_8 x_9 x_10 x_11 x_12 x_13 n_6 n_7))),(34,.v (.one (.bool !b_4))),(33,.v (.one (.bool !b_4))),(32,.v (.one (.bool b_4))),(31,.v (.agg (ps x_7 n_4 n_5 b_2 x_8 x_9 x_10 x_11 x_12 x_13 n_6 n_7))),(30,.kb true),(29,.v (.one (.bool
 !b_3))),(28,.v (.one (.bool b_3))),(5,.v (.one (.bool b_3))),(4,.v (.one x_14)),(3,.loc 2 0),(27,.v (.one (.bool b_3))),(26,.v (.one x_14)),(25,.v (.agg (ps x_7 n_4 n_5 b_2 x_8 x_9 x_10 x_11 x_12 x_13 n_6 n_7))),(22,.v (.tup [.agg (ps x_7 n_4 n_5 b_2 x_8 x_9 x_10 x_11 x_12 x_13 n_6 n_7),.one x_14,.one (.bool b_3)])),(24,.v (.tup [.agg (ps x_7 n_4 n_5 b_2 x_8 x_9 x_10 x_11 x_12
 x_13 n_6 n_7),.one x_14,.one (.bool b_3)])),(23,.v (.agg (ps x n n_1 b x_1 x_2 x_3 x_4 x_5 x_6 n_2 n_3))),(19,.v (.one (.bool b_1))),(21,.v (.one (.bool b_1))),(20,.v (.agg (ps x n n_1 b x_1 x_2 x_3 x_4 x_5 x_6 n_2 n_3))),(18,.v (.agg (ps x n n_1 b x_1 x_2 x_3 x_4 x_5 x_6 n_2 n_3))),(17,.v (.agg (ps x0_0 n0_1 n0_2 b0_3 x0_4 x0_5 x0_6 x0_7 x0_8 x0_9 n0_10 n0_11))),(2,.loc 1
 0),(1,.loc 0 0),(0,.v (.agg (ps x0_0 n0_1 n0_2 b0_3 x0_4 x0_5 x0_6 x0_7 x0_8 x0_9 n0_10 n0_11)))] S1 [(90,(ps x_29 n_16 n_17 b_7 x_30 x_31 x_32 x_33 x_34 x_35 n_18 n_19)),(90,ps0),(90,(ps x_7 n_4 n_5 b_2 x_8 x_9 x_10 x_11 x_12 x_13 n_6 n_7)),(90,(ps x_22 n_12 n_13 b_6 x_23 x_24 x_25 x_26 x_27 x_28 n_14 n_15))]))/\((!b_3)=false->∃ R,hk.1 82 [.agg (ps x_7 n_4 n_5 b_2 x_8 x_9 x_10
 x_11 x_12 x_13 n_6 n_7),.one (.str k22)] S1 [(90,(ps x n n_1 b x_1 x_2 x_3 x_4 x_5 x_6 n_2 n_3)),(90,ps0),(90,(ps x_7 n_4 n_5 b_2 x_8 x_9 x_10 x_11 x_12 x_13 n_6 n_7))] R/\∀ (x_15 : AL) (n_8 n_9 : Int) (b_4 : Bool) (x_16 x_17 x_18 x_19 x_20 x_21 : AL) (n_10 n_11 : Int) (S1 : St),R (.agg (ps x_15 n_8 n_9 b_4 x_16 x_17 x_18 x_19 x_20 x_21 n_10 n_11)) S1->∃ R,hk.1 106 [.agg (ps
 x_15 n_8 n_9 b_4 x_16 x_17 x_18 x_19 x_20 x_21 n_10 n_11)] S1 [(90,(ps x n n_1 b x_1 x_2 x_3 x_4 x_5 x_6 n_2 n_3)),(90,ps0),(90,(ps x_7 n_4 n_5 b_2 x_8 x_9 x_10 x_11 x_12 x_13 n_6 n_7))] R/\∀ (x_22 : AL) (n_12 n_13 : Int) (b_5 : Bool) (x_23 x_24 x_25 x_26 x_27 x_28 : AL) (n_14 n_15 : Int) (s : ByteArray) (S1 : St),R (.tup [.agg (ps x_22 n_12 n_13 b_5 x_23 x_24 x_25 x_26 x_27
 x_28 n_14 n_15),.one (.str s)]) S1->∃ R,hk.1 80 [.agg (ps x_22 n_12 n_13 b_5 x_23 x_24 x_25 x_26 x_27 x_28 n_14 n_15),.one (.str k14)] S1 [(90,(ps x n n_1 b x_1 x_2 x_3 x_4 x_5 x_6 n_2 n_3)),(90,ps0),(90,(ps x_7 n_4 n_5 b_2 x_8 x_9 x_10 x_11 x_12 x_13 n_6 n_7)),(90,(ps x_22 n_12 n_13 b_5 x_23 x_24 x_25 x_26 x_27 x_28 n_14 n_15))] R/\∀ (x_29 : AL) (n_16 n_17 : Int) (b_6 : Bool)
 (x_30 x_31 x_32 x_33 x_34 x_35 : AL) (n_18 n_19 : Int) (S1 : St),R (.agg (ps x_29 n_16 n_17 b_6 x_30 x_31 x_32 x_33 x_34 x_35 n_18 n_19)) S1->hk.2 140 (codeOf Tryz.prog 77 [1,1,0,0,1,0,1,1,1,1,0,1,0,0]) [.blk 3,.seq (codeOf Tryz.prog 77 [1,1,0,0,1,0,1,1,1,1,1]),.blk 0,.seq (codeOf Tryz.prog 77 [1,1,1])] (wEnd (tabOf Tryz.prog) Tryz.f77 false S.boxes.length Q) [(9,.v (.one (.i
 0))),(64,.v (.agg (ps x_29 n_16 n_17 b_6 x_30 x_31 x_32 x_33 x_34 x_35 n_18 n_19))),(63,.v (.agg (ps x_22 n_12 n_13 b_5 x_23 x_24 x_25 x_26 x_27 x_28 n_14 n_15))),(8,.v (.one (.str s))),(7,.loc 3 0),(62,.v (.one (.str s))),(61,.v (.agg (ps x_22 n_12 n_13 b_5 x_23 x_24 x_25 x_26 x_27 x_28 n_14 n_15))),(57,.v (.tup [.agg (ps x_22 n_12 n_13 b_5 x_23 x_24 x_25 x_26 x_27 x_28 n_14
 n_15),.one (.str s)])),(60,.v (.tup [.agg (ps x_22 n_12 n_13 b_5 x_23 x_24 x_25 x_26 x_27 x_28 n_14 n_15),.one (.str s)])),(59,.v (.agg (ps x_15 n_8 n_9 b_4 x_16 x_17 x_18 x_19 x_20 x_21 n_10 n_11))),(58,.v (.agg (ps x_7 n_4 n_5 b_2 x_8 x_9 x_10 x_11 x_12 x_13 n_6 n_7))),(34,.kb false),(33,.v (.tup [])),(32,.v (.tup [])),(31,.v (.tup [])),(30,.kb false),(29,.v (.one (.bool
 !b_3))),(28,.v (.one (.bool b_3))),(5,.v (.one (.bool b_3))),(4,.v (.one x_14)),(3,.loc 2 0),(27,.v (.one (.bool b_3))),(26,.v (.one x_14)),(25,.v (.agg (ps x_7 n_4 n_5 b_2 x_8 x_9 x_10 x_11 x_12 x_13 n_6 n_7))),(22,.v (.tup [.agg (ps x_7 n_4 n_5 b_2 x_8 x_9 x_10 x_11 x_12 x_13 n_6 n_7),.one x_14,.one (.bool b_3)])),(24,.v (.tup [.agg (ps x_7 n_4 n_5 b_2 x_8 x_9 x_10 x_11 x_12
 x_13 n_6 n_7),.one x_14,.one (.bool b_3)])),(23,.v (.agg (ps x n n_1 b x_1 x_2 x_3 x_4 x_5 x_6 n_2 n_3))),(19,.v (.one (.bool b_1))),(21,.v (.one (.bool b_1))),(20,.v (.agg (ps x n n_1 b x_1 x_2 x_3 x_4 x_5 x_6 n_2 n_3))),(18,.v (.agg (ps x n n_1 b x_1 x_2 x_3 x_4 x_5 x_6 n_2 n_3))),(17,.v (.agg (ps x0_0 n0_1 n0_2 b0_3 x0_4 x0_5 x0_6 x0_7 x0_8 x0_9 n0_10 n0_11))),(2,.loc 1
 0),(1,.loc 0 0),(0,.v (.agg (ps x0_0 n0_1 n0_2 b0_3 x0_4 x0_5 x0_6 x0_7 x0_8 x0_9 n0_10 n0_11)))] S1 [(90,(ps x_29 n_16 n_17 b_6 x_30 x_31 x_32 x_33 x_34 x_35 n_18 n_19)),(90,ps0),(90,(ps x_7 n_4 n_5 b_2 x_8 x_9 x_10 x_11 x_12 x_13 n_6 n_7)),(90,(ps x_22 n_12 n_13 b_5 x_23 x_24 x_25 x_26 x_27 x_28 n_14 n_15))]))/\(b_1=false->∃ R,hk.1 75 [.agg (ps x n n_1 b x_1 x_2 x_3 x_4 x_5
 x_6 n_2 n_3),.one (.i 4),.one (.str k5)] S1 [(90,(ps x n n_1 b x_1 x_2 x_3 x_4 x_5 x_6 n_2 n_3)),(90,ps0)] R/\∀ (b_2 : Bool) (S1 : St),R (.one (.bool b_2)) S1->(b_2=true->∃ R,hk.1 80 [.agg (ps x n n_1 b x_1 x_2 x_3 x_4 x_5 x_6 n_2 n_3),.one (.str k5)] S1 [(90,(ps x n n_1 b x_1 x_2 x_3 x_4 x_5 x_6 n_2 n_3)),(90,ps0)] R/\∀ (x_7 : AL) (n_4 n_5 : Int) (b_3 : Bool) (x_8 x_9 x_10
 x_11 x_12 x_13 : AL) (n_6 n_7 : Int) (S1 : St),R (.agg (ps x_7 n_4 n_5 b_3 x_8 x_9 x_10 x_11 x_12 x_13 n_6 n_7)) S1->∃ R,hk.1 82 [.agg (ps x_7 n_4 n_5 b_3 x_8 x_9 x_10 x_11 x_12 x_13 n_6 n_7),.one (.str k22)] S1 [(90,(ps x n n_1 b x_1 x_2 x_3 x_4 x_5 x_6 n_2 n_3)),(90,ps0)] R/\∀ (x_14 : AL) (n_8 n_9 : Int) (b_4 : Bool) (x_15 x_16 x_17 x_18 x_19 x_20 : AL) (n_10 n_11 : Int) (S1
 : St),R (.agg (ps x_14 n_8 n_9 b_4 x_15 x_16 x_17 x_18 x_19 x_20 n_10 n_11)) S1->∃ R,hk.1 106 [.agg (ps x_14 n_8 n_9 b_4 x_15 x_16 x_17 x_18 x_19 x_20 n_10 n_11)] S1 [(90,(ps x n n_1 b x_1 x_2 x_3 x_4 x_5 x_6 n_2 n_3)),(90,ps0)] R/\∀ (x_21 : AL) (n_12 n_13 : Int) (b_5 : Bool) (x_22 x_23 x_24 x_25 x_26 x_27 : AL) (n_14 n_15 : Int) (s : ByteArray) (S1 : St),R (.tup [.agg (ps x_21
 n_12 n_13 b_5 x_22 x_23 x_24 x_25 x_26 x_27 n_14 n_15),.one (.str s)]) S1->∃ R,hk.1 80 [.agg (ps x_21 n_12 n_13 b_5 x_22 x_23 x_24 x_25 x_26 x_27 n_14 n_15),.one (.str k14)] S1 [(90,(ps x n n_1 b x_1 x_2 x_3 x_4 x_5 x_6 n_2 n_3)),(90,ps0),(90,(ps x_21 n_12 n_13 b_5 x_22 x_23 x_24 x_25 x_26 x_27 n_14 n_15))] R/\∀ (x_28 : AL) (n_16 n_17 : Int) (b_6 : Bool) (x_29 x_30 x_31 x_32
 x_33 x_34 : AL) (n_18 n_19 : Int) (S1 : St),R (.agg (ps x_28 n_16 n_17 b_6 x_29 x_30 x_31 x_32 x_33 x_34 n_18 n_19)) S1->∃ R,hk.1 109 [.agg (ps x_28 n_16 n_17 b_6 x_29 x_30 x_31 x_32 x_33 x_34 n_18 n_19),.agg [.i 3,.str k_,.str k_,.str s]] S1 [(90,(ps x n n_1 b x_1 x_2 x_3 x_4 x_5 x_6 n_2 n_3)),(90,ps0),(90,(ps x_21 n_12 n_13 b_5 x_22 x_23 x_24 x_25 x_26 x_27 n_14 n_15))] R/\∀
 (x : AL) (n n_20 : Int) (b : Bool) (x_35 x_36 x_37 x_38 x_39 x_40 : AL) (n_21 n_22 : Int) (S1 : St),R (.agg (ps x n n_20 b x_35 x_36 x_37 x_38 x_39 x_40 n_21 n_22)) S1->true=true/\Q (.agg (ps x n n_20 b x_35 x_36 x_37 x_38 x_39 x_40 n_21 n_22)) S1)/\(b_2=false->∃ R,hk.1 75 [.agg (ps x n n_1 b x_1 x_2 x_3 x_4 x_5 x_6 n_2 n_3),.one (.i 1),.one (.str k23)] S1 [(90,(ps x n n_1 b
 x_1 x_2 x_3 x_4 x_5 x_6 n_2 n_3)),(90,ps0)] R/\∀ (b_3 : Bool) (S1 : St),R (.one (.bool b_3)) S1->(b_3=true->∃ R,hk.1 82 [.agg (ps x n n_1 b x_1 x_2 x_3 x_4 x_5 x_6 n_2 n_3),.one (.str k23)] S1 [(90,(ps x n n_1 b x_1 x_2 x_3 x_4 x_5 x_6 n_2 n_3)),(90,ps0)] R/\∀ (x_7 : AL) (n_4 n_5 : Int) (b_4 : Bool) (x_8 x_9 x_10 x_11 x_12 x_13 : AL) (n_6 n_7 : Int) (S1 : St),R (.agg (ps x_7
 n_4 n_5 b_4 x_8 x_9 x_10 x_11 x_12 x_13 n_6 n_7)) S1->∃ R,hk.1 81 [.agg (ps x_7 n_4 n_5 b_4 x_8 x_9 x_10 x_11 x_12 x_13 n_6 n_7)] S1 [(90,(ps x n n_1 b x_1 x_2 x_3 x_4 x_5 x_6 n_2 n_3)),(90,ps0)] R/\∀ (x_14 : AL) (n_8 n_9 : Int) (b_5 : Bool) (x_15 x_16 x_17 x_18 x_19 x_20 : AL) (n_10 n_11 : Int) (S1 : St),R (.agg (ps x_14 n_8 n_9 b_5 x_15 x_16 x_17 x_18 x_19 x_20 n_10 n_11))
 S1->∃ R,hk.1 80 [.agg (ps x_14 n_8 n_9 b_5 x_15 x_16 x_17 x_18 x_19 x_20 n_10 n_11),.one (.str k14)] S1 [(90,(ps x n n_1 b x_1 x_2 x_3 x_4 x_5 x_6 n_2 n_3)),(90,ps0)] R/\∀ (x_21 : AL) (n_12 n_13 : Int) (b_6 : Bool) (x_22 x_23 x_24 x_25 x_26 x_27 : AL) (n_14 n_15 : Int) (S1 : St),R (.agg (ps x_21 n_12 n_13 b_6 x_22 x_23 x_24 x_25 x_26 x_27 n_14 n_15)) S1->∃ R,hk.1 83 [.agg (ps
 x_21 n_12 n_13 b_6 x_22 x_23 x_24 x_25 x_26 x_27 n_14 n_15),.one (.i 1),.one (.str k24)] S1 [(90,(ps x n n_1 b x_1 x_2 x_3 x_4 x_5 x_6 n_2 n_3)),(90,ps0),(90,(ps x_21 n_12 n_13 b_6 x_22 x_23 x_24 x_25 x_26 x_27 n_14 n_15))] R/\∀ (x_28 : AL) (n_16 n_17 : Int) (b_7 : Bool) (x_29 x_30 x_31 x_32 x_33 x_34 : AL) (n_18 n_19 : Int) (S1 : St),R (.agg (ps x_28 n_16 n_17 b_7 x_29 x_30
 x_31 x_32 x_33 x_34 n_18 n_19)) S1->∃ R,hk.1 109 [.agg (ps x_28 n_16 n_17 b_7 x_29 x_30 x_31 x_32 x_33 x_34 n_18 n_19),.agg [.i 1,.str k23,.str k24,.str k_]] S1 [(90,(ps x n n_1 b x_1 x_2 x_3 x_4 x_5 x_6 n_2 n_3)),(90,ps0),(90,(ps x_21 n_12 n_13 b_6 x_22 x_23 x_24 x_25 x_26 x_27 n_14 n_15))] R/\∀ (x : AL) (n n_20 : Int) (b : Bool) (x_35 x_36 x_37 x_38 x_39 x_40 : AL) (n_21 n_22
 : Int) (S1 : St),R (.agg (ps x n n_20 b x_35 x_36 x_37 x_38 x_39 x_40 n_21 n_22)) S1->true=true/\Q (.agg (ps x n n_20 b x_35 x_36 x_37 x_38 x_39 x_40 n_21 n_22)) S1)/\(b_3=false->∃ R,hk.1 75 [.agg (ps x n n_1 b x_1 x_2 x_3 x_4 x_5 x_6 n_2 n_3),.one (.i 1),.one (.str k12)] S1 [(90,(ps x n n_1 b x_1 x_2 x_3 x_4 x_5 x_6 n_2 n_3)),(90,ps0)] R/\∀ (b_4 : Bool) (S1 : St),R (.one
 (.bool b_4)) S1->(b_4=true->∃ R,hk.1 78 [.agg (ps x n n_1 b x_1 x_2 x_3 x_4 x_5 x_6 n_2 n_3)] S1 [(90,(ps x n n_1 b x_1 x_2 x_3 x_4 x_5 x_6 n_2 n_3)),(90,ps0)] R/\∀ (x_7 : AL) (n_4 n_5 : Int) (b_5 : Bool) (x_8 x_9 x_10 x_11 x_12 x_13 : AL) (n_6 n_7 : Int) (s : ByteArray) (S1 : St),R (.tup [.agg (ps x_7 n_4 n_5 b_5 x_8 x_9 x_10 x_11 x_12 x_13 n_6 n_7),.one (.str s)]) S1->∃
 R,hk.1 109 [.agg (ps x_7 n_4 n_5 b_5 x_8 x_9 x_10 x_11 x_12 x_13 n_6 n_7),.agg [.i 1,.str s,.str s,.str k_]] S1 [(90,(ps x n n_1 b x_1 x_2 x_3 x_4 x_5 x_6 n_2 n_3)),(90,ps0),(90,(ps x_7 n_4 n_5 b_5 x_8 x_9 x_10 x_11 x_12 x_13 n_6 n_7))] R/\∀ (x : AL) (n n_8 : Int) (b : Bool) (x_14 x_15 x_16 x_17 x_18 x_19 : AL) (n_9 n_10 : Int) (S1 : St),R (.agg (ps x n n_8 b x_14 x_15 x_16
 x_17 x_18 x_19 n_9 n_10)) S1->true=true/\Q (.agg (ps x n n_8 b x_14 x_15 x_16 x_17 x_18 x_19 n_9 n_10)) S1)/\(b_4=false->∃ R,hk.1 75 [.agg (ps x n n_1 b x_1 x_2 x_3 x_4 x_5 x_6 n_2 n_3),.one (.i 1),.one (.str k15)] S1 [(90,(ps x n n_1 b x_1 x_2 x_3 x_4 x_5 x_6 n_2 n_3)),(90,ps0)] R/\∀ (b_5 : Bool) (S1 : St),R (.one (.bool b_5)) S1->(b_5=true->∃ R,hk.1 79 [.agg (ps x n n_1 b x_1
 x_2 x_3 x_4 x_5 x_6 n_2 n_3)] S1 [(90,(ps x n n_1 b x_1 x_2 x_3 x_4 x_5 x_6 n_2 n_3)),(90,ps0)] R/\∀ (x_7 : AL) (n_4 n_5 : Int) (b_6 : Bool) (x_8 x_9 x_10 x_11 x_12 x_13 : AL) (n_6 n_7 : Int) (s : ByteArray) (S1 : St),R (.tup [.agg (ps x_7 n_4 n_5 b_6 x_8 x_9 x_10 x_11 x_12 x_13 n_6 n_7),.one (.str s)]) S1->∃ R,hk.1 109 [.agg (ps x_7 n_4 n_5 b_6 x_8 x_9 x_10 x_11 x_12 x_13 n_6
 n_7),.agg [.i 1,.str s,.str s,.str k_]] S1 [(90,(ps x n n_1 b x_1 x_2 x_3 x_4 x_5 x_6 n_2 n_3)),(90,ps0),(90,(ps x_7 n_4 n_5 b_6 x_8 x_9 x_10 x_11 x_12 x_13 n_6 n_7))] R/\∀ (x : AL) (n n_8 : Int) (b : Bool) (x_14 x_15 x_16 x_17 x_18 x_19 : AL) (n_9 n_10 : Int) (S1 : St),R (.agg (ps x n n_8 b x_14 x_15 x_16 x_17 x_18 x_19 n_9 n_10)) S1->true=true/\Q (.agg (ps x n n_8 b x_14 x_15
 x_16 x_17 x_18 x_19 n_9 n_10)) S1)/\(b_5=false->∃ R,hk.1 110 [.agg (ps x n n_1 b x_1 x_2 x_3 x_4 x_5 x_6 n_2 n_3)] S1 [(90,(ps x n n_1 b x_1 x_2 x_3 x_4 x_5 x_6 n_2 n_3)),(90,ps0)] R/\∀ (x : AL) (n n_4 : Int) (b : Bool) (x_7 x_8 x_9 x_10 x_11 x_12 : AL) (n_5 n_6 : Int) (S1 : St),R (.agg (ps x n n_4 b x_7 x_8 x_9 x_10 x_11 x_12 n_5 n_6)) S1->true=true/\Q (.agg (ps x n n_4 b x_7
 x_8 x_9 x_10 x_11 x_12 n_5 n_6))
 S1))))))
 := by intros; kernel_rfl
theorem b77_0 : ∀ (hk : Hk) (x : AL) (n6 : Int) (xL0_0 : AL) (nL0_1 nL0_2 : Int) (bL0_3 : Bool) (xL0_4 xL0_5 xL0_6 xL0_7 xL0_8 xL0_9 : AL) (nL0_10 nL0_11 : Int) (xL1_0 : AL) (nL1_1 nL1_2 : Int) (bL1_3 : Bool) (xL1_4 xL1_5 xL1_6 xL1_7 xL1_8 xL1_9 : AL) (nL1_10 nL1_11 : Int) (xL2_0 : AL) (nL2_1 nL2_2 : Int) (bL2_3 : Bool) (xL2_4 xL2_5 xL2_6 xL2_7 xL2_8 xL2_9 : AL) (nL2_10 nL2_11
 : Int) (S : St) (K : QW),wCode true hk Tryz.prog (tabOf Tryz.prog) 140 Proofs.YtkdickfiifpblaaGreatDoor.D.pl77 1000 (codeOf Tryz.prog 77 [1,1,0,0,1,0,1,0,1,0,1,0,1,0,0]) [] (fun e env S L => K e (restr [6,4,3,2,1] env) S L) [(6,.v (.one (.i n6))),(4,.v (.one x)),(3,.loc 2 0),(2,.loc 1 0),(1,.loc 0 0)] S [(90,(ps xL0_0 nL0_1 nL0_2 bL0_3 xL0_4 xL0_5 xL0_6 xL0_7 xL0_8 xL0_9 nL0_10
 nL0_11)),(90,(ps xL1_0 nL1_1 nL1_2 bL1_3 xL1_4 xL1_5 xL1_6 xL1_7 xL1_8 xL1_9 nL1_10 nL1_11)),(90,(ps xL2_0 nL2_1 nL2_2 bL2_3 xL2_4 xL2_5 xL2_6 xL2_7 xL2_8 xL2_9 nL2_10 nL2_11))]=∃ n,x.len?=some n/\(decide (n6 < (↑n : Int))=true->true=true/\∃ tok n xs,x=.sl tok n xs/\0<=n6/\n6 < (↑n : Int)/\∃ tok n xs_1,x=.sl tok n xs_1/\0<=n6/\n6 < (↑n : Int)/\(((∃ x,likeCells [.str k_]
 [x]=true/\(List.drop 1 (List.drop (n6.toNat * 4) xs))[0]?=some x)/\∀ (s : ByteArray),(List.drop 1 (List.drop (n6.toNat * 4) xs))[0]?=some (.str s)->((∃ x,likeCells [.str k_] [x]=true/\(List.drop 2 (List.drop (n6.toNat * 4) xs_1))[0]?=some x)/\∀ (s_1 : ByteArray),(List.drop 2 (List.drop (n6.toNat * 4) xs_1))[0]?=some (.str s_1)->(∃ R,hk.1 109 [.agg (ps xL0_0 nL0_1 nL0_2 bL0_3
 xL0_4 xL0_5 xL0_6 xL0_7 xL0_8 xL0_9 nL0_10 nL0_11),.agg [.i 1,.str s,.str s_1,.str k_]] S [(90,(ps xL0_0 nL0_1 nL0_2 bL0_3 xL0_4 xL0_5 xL0_6 xL0_7 xL0_8 xL0_9 nL0_10 nL0_11)),(90,(ps xL1_0 nL1_1 nL1_2 bL1_3 xL1_4 xL1_5 xL1_6 xL1_7 xL1_8 xL1_9 nL1_10 nL1_11)),(90,(ps xL2_0 nL2_1 nL2_2 bL2_3 xL2_4 xL2_5 xL2_6 xL2_7 xL2_8 xL2_9 nL2_10 nL2_11))] R/\∀ (x_1 : AL) (n n_1 : Int) (b :
 Bool) (x_2 x_3 x_4 x_5 x_6 x_7 : AL) (n_2 n_3 : Int) (S1 : St),R (.agg (ps x_1 n n_1 b x_2 x_3 x_4 x_5 x_6 x_7 n_2 n_3)) S1->(in64 (n6 + 1)/\K .normal [(6,.v (.one (.i (n6 + 1)))),(4,.v (.one x)),(3,.loc 2 0),(2,.loc 1 0),(1,.loc 0 0)] S1 [(90,(ps x_1 n n_1 b x_2 x_3 x_4 x_5 x_6 x_7 n_2 n_3)),(90,(ps xL1_0 nL1_1 nL1_2 bL1_3 xL1_4 xL1_5 xL1_6 xL1_7 xL1_8 xL1_9 nL1_10
 nL1_11)),(90,(ps xL2_0 nL2_1 nL2_2 bL2_3 xL2_4 xL2_5 xL2_6 xL2_7 xL2_8 xL2_9 nL2_10 nL2_11))])/\True)/\True)/\True)/\((∃ x,likeCells [.str k_] [x]=true/\(List.drop 2 (List.drop (n6.toNat * 4) xs_1))[0]?=some x)/\∀ (s : ByteArray),(List.drop 2 (List.drop (n6.toNat * 4) xs_1))[0]?=some (.str s)->((∃ x,likeCells [.str k_] [x]=true/\(List.drop 1 (List.drop (n6.toNat * 4)
 xs))[0]?=some x)/\∀ (s_1 : ByteArray),(List.drop 1 (List.drop (n6.toNat * 4) xs))[0]?=some (.str s_1)->(∃ R,hk.1 109 [.agg (ps xL0_0 nL0_1 nL0_2 bL0_3 xL0_4 xL0_5 xL0_6 xL0_7 xL0_8 xL0_9 nL0_10 nL0_11),.agg [.i 1,.str s_1,.str s,.str k_]] S [(90,(ps xL0_0 nL0_1 nL0_2 bL0_3 xL0_4 xL0_5 xL0_6 xL0_7 xL0_8 xL0_9 nL0_10 nL0_11)),(90,(ps xL1_0 nL1_1 nL1_2 bL1_3 xL1_4 xL1_5 xL1_6
 xL1_7 xL1_8 xL1_9 nL1_10 nL1_11)),(90,(ps xL2_0 nL2_1 nL2_2 bL2_3 xL2_4 xL2_5 xL2_6 xL2_7 xL2_8 xL2_9 nL2_10 nL2_11))] R/\∀ (x_1 : AL) (n n_1 : Int) (b : Bool) (x_2 x_3 x_4 x_5 x_6 x_7 : AL) (n_2 n_3 : Int) (S1 : St),R (.agg (ps x_1 n n_1 b x_2 x_3 x_4 x_5 x_6 x_7 n_2 n_3)) S1->(in64 (n6 + 1)/\K .normal [(6,.v (.one (.i (n6 + 1)))),(4,.v (.one x)),(3,.loc 2 0),(2,.loc 1
 0),(1,.loc 0 0)] S1 [(90,(ps x_1 n n_1 b x_2 x_3 x_4 x_5 x_6 x_7 n_2 n_3)),(90,(ps xL1_0 nL1_1 nL1_2 bL1_3 xL1_4 xL1_5 xL1_6 xL1_7 xL1_8 xL1_9 nL1_10 nL1_11)),(90,(ps xL2_0 nL2_1 nL2_2 bL2_3 xL2_4 xL2_5 xL2_6 xL2_7 xL2_8 xL2_9 nL2_10 nL2_11))])/\True)/\True)/\True)/\True)/\((∃ x,likeCells [.str k_] [x]=true/\(List.drop 1 (List.drop (n6.toNat * 4) xs))[0]?=some x)/\∀ (s :
 ByteArray),(List.drop 1 (List.drop (n6.toNat * 4) xs))[0]?=some (.str s)->(((∃ x,likeCells [.str k_] [x]=true/\(List.drop 2 (List.drop (n6.toNat * 4) xs_1))[0]?=some x)/\∀ (s_1 : ByteArray),(List.drop 2 (List.drop (n6.toNat * 4) xs_1))[0]?=some (.str s_1)->(∃ R,hk.1 109 [.agg (ps xL0_0 nL0_1 nL0_2 bL0_3 xL0_4 xL0_5 xL0_6 xL0_7 xL0_8 xL0_9 nL0_10 nL0_11),.agg [.i 1,.str s,.str
 s_1,.str k_]] S [(90,(ps xL0_0 nL0_1 nL0_2 bL0_3 xL0_4 xL0_5 xL0_6 xL0_7 xL0_8 xL0_9 nL0_10 nL0_11)),(90,(ps xL1_0 nL1_1 nL1_2 bL1_3 xL1_4 xL1_5 xL1_6 xL1_7 xL1_8 xL1_9 nL1_10 nL1_11)),(90,(ps xL2_0 nL2_1 nL2_2 bL2_3 xL2_4 xL2_5 xL2_6 xL2_7 xL2_8 xL2_9 nL2_10 nL2_11))] R/\∀ (x_1 : AL) (n n_1 : Int) (b : Bool) (x_2 x_3 x_4 x_5 x_6 x_7 : AL) (n_2 n_3 : Int) (S1 : St),R (.agg (ps
 x_1 n n_1 b x_2 x_3 x_4 x_5 x_6 x_7 n_2 n_3)) S1->(in64 (n6 + 1)/\K .normal [(6,.v (.one (.i (n6 + 1)))),(4,.v (.one x)),(3,.loc 2 0),(2,.loc 1 0),(1,.loc 0 0)] S1 [(90,(ps x_1 n n_1 b x_2 x_3 x_4 x_5 x_6 x_7 n_2 n_3)),(90,(ps xL1_0 nL1_1 nL1_2 bL1_3 xL1_4 xL1_5 xL1_6 xL1_7 xL1_8 xL1_9 nL1_10 nL1_11)),(90,(ps xL2_0 nL2_1 nL2_2 bL2_3 xL2_4 xL2_5 xL2_6 xL2_7 xL2_8 xL2_9 nL2_10
 nL2_11))])/\True)/\True)/\True)/\((∃ x,likeCells [.str k_] [x]=true/\(List.drop 2 (List.drop (n6.toNat * 4) xs_1))[0]?=some x)/\∀ (s_1 : ByteArray),(List.drop 2 (List.drop (n6.toNat * 4) xs_1))[0]?=some (.str s_1)->((∃ R,hk.1 109 [.agg (ps xL0_0 nL0_1 nL0_2 bL0_3 xL0_4 xL0_5 xL0_6 xL0_7 xL0_8 xL0_9 nL0_10 nL0_11),.agg [.i 1,.str s,.str s_1,.str k_]] S [(90,(ps xL0_0 nL0_1 nL0_2
 bL0_3 xL0_4 xL0_5 xL0_6 xL0_7 xL0_8 xL0_9 nL0_10 nL0_11)),(90,(ps xL1_0 nL1_1 nL1_2 bL1_3 xL1_4 xL1_5 xL1_6 xL1_7 xL1_8 xL1_9 nL1_10 nL1_11)),(90,(ps xL2_0 nL2_1 nL2_2 bL2_3 xL2_4 xL2_5 xL2_6 xL2_7 xL2_8 xL2_9 nL2_10 nL2_11))] R/\∀ (x_1 : AL) (n n_1 : Int) (b : Bool) (x_2 x_3 x_4 x_5 x_6 x_7 : AL) (n_2 n_3 : Int) (S1 : St),R (.agg (ps x_1 n n_1 b x_2 x_3 x_4 x_5 x_6 x_7 n_2
 n_3)) S1->(in64 (n6 + 1)/\K .normal [(6,.v (.one (.i (n6 + 1)))),(4,.v (.one x)),(3,.loc 2 0),(2,.loc 1 0),(1,.loc 0 0)] S1 [(90,(ps x_1 n n_1 b x_2 x_3 x_4 x_5 x_6 x_7 n_2 n_3)),(90,(ps xL1_0 nL1_1 nL1_2 bL1_3 xL1_4 xL1_5 xL1_6 xL1_7 xL1_8 xL1_9 nL1_10 nL1_11)),(90,(ps xL2_0 nL2_1 nL2_2 bL2_3 xL2_4 xL2_5 xL2_6 xL2_7 xL2_8 xL2_9 nL2_10
 nL2_11))])/\True)/\True)/\True)/\True)/\((∃ x,likeCells [.str k_] [x]=true/\(List.drop 2 (List.drop (n6.toNat * 4) xs_1))[0]?=some x)/\∀ (s : ByteArray),(List.drop 2 (List.drop (n6.toNat * 4) xs_1))[0]?=some (.str s)->(((∃ x,likeCells [.str k_] [x]=true/\(List.drop 1 (List.drop (n6.toNat * 4) xs))[0]?=some x)/\∀ (s_1 : ByteArray),(List.drop 1 (List.drop (n6.toNat * 4)
 xs))[0]?=some (.str s_1)->(∃ R,hk.1 109 [.agg (ps xL0_0 nL0_1 nL0_2 bL0_3 xL0_4 xL0_5 xL0_6 xL0_7 xL0_8 xL0_9 nL0_10 nL0_11),.agg [.i 1,.str s_1,.str s,.str k_]] S [(90,(ps xL0_0 nL0_1 nL0_2 bL0_3 xL0_4 xL0_5 xL0_6 xL0_7 xL0_8 xL0_9 nL0_10 nL0_11)),(90,(ps xL1_0 nL1_1 nL1_2 bL1_3 xL1_4 xL1_5 xL1_6 xL1_7 xL1_8 xL1_9 nL1_10 nL1_11)),(90,(ps xL2_0 nL2_1 nL2_2 bL2_3 xL2_4 xL2_5
 xL2_6 xL2_7 xL2_8 xL2_9 nL2_10 nL2_11))] R/\∀ (x_1 : AL) (n n_1 : Int) (b : Bool) (x_2 x_3 x_4 x_5 x_6 x_7 : AL) (n_2 n_3 : Int) (S1 : St),R (.agg (ps x_1 n n_1 b x_2 x_3 x_4 x_5 x_6 x_7 n_2 n_3)) S1->(in64 (n6 + 1)/\K .normal [(6,.v (.one (.i (n6 + 1)))),(4,.v (.one x)),(3,.loc 2 0),(2,.loc 1 0),(1,.loc 0 0)] S1 [(90,(ps x_1 n n_1 b x_2 x_3 x_4 x_5 x_6 x_7 n_2 n_3)),(90,(ps
 xL1_0 nL1_1 nL1_2 bL1_3 xL1_4 xL1_5 xL1_6 xL1_7 xL1_8 xL1_9 nL1_10 nL1_11)),(90,(ps xL2_0 nL2_1 nL2_2 bL2_3 xL2_4 xL2_5 xL2_6 xL2_7 xL2_8 xL2_9 nL2_10 nL2_11))])/\True)/\True)/\True)/\((∃ x,likeCells [.str k_] [x]=true/\(List.drop 1 (List.drop (n6.toNat * 4) xs))[0]?=some x)/\∀ (s_1 : ByteArray),(List.drop 1 (List.drop (n6.toNat * 4) xs))[0]?=some (.str s_1)->((∃ R,hk.1 109
 [.agg (ps xL0_0 nL0_1 nL0_2 bL0_3 xL0_4 xL0_5 xL0_6 xL0_7 xL0_8 xL0_9 nL0_10 nL0_11),.agg [.i 1,.str s_1,.str s,.str k_]] S [(90,(ps xL0_0 nL0_1 nL0_2 bL0_3 xL0_4 xL0_5 xL0_6 xL0_7 xL0_8 xL0_9 nL0_10 nL0_11)),(90,(ps xL1_0 nL1_1 nL1_2 bL1_3 xL1_4 xL1_5 xL1_6 xL1_7 xL1_8 xL1_9 nL1_10 nL1_11)),(90,(ps xL2_0 nL2_1 nL2_2 bL2_3 xL2_4 xL2_5 xL2_6 xL2_7 xL2_8 xL2_9 nL2_10 nL2_11))]
 R/\∀ (x_1 : AL) (n n_1 : Int) (b : Bool) (x_2 x_3 x_4 x_5 x_6 x_7 : AL) (n_2 n_3 : Int) (S1 : St),R (.agg (ps x_1 n n_1 b x_2 x_3 x_4 x_5 x_6 x_7 n_2 n_3)) S1->(in64 (n6 + 1)/\K .normal [(6,.v (.one (.i (n6 + 1)))),(4,.v (.one x)),(3,.loc 2 0),(2,.loc 1 0),(1,.loc 0 0)] S1 [(90,(ps x_1 n n_1 b x_2 x_3 x_4 x_5 x_6 x_7 n_2 n_3)),(90,(ps xL1_0 nL1_1 nL1_2 bL1_3 xL1_4 xL1_5 xL1_6
 xL1_7 xL1_8 xL1_9 nL1_10 nL1_11)),(90,(ps xL2_0 nL2_1 nL2_2 bL2_3 xL2_4 xL2_5 xL2_6 xL2_7 xL2_8 xL2_9 nL2_10 nL2_11))])/\True)/\True)/\True)/\True)/\True)/\(decide (n6 < (↑n : Int))=false->K (.exit 1) [(6,.v (.one (.i n6))),(4,.v (.one x)),(3,.loc 2 0),(2,.loc 1 0),(1,.loc 0 0)] S [(90,(ps xL0_0 nL0_1 nL0_2 bL0_3 xL0_4 xL0_5 xL0_6 xL0_7 xL0_8 xL0_9 nL0_10 nL0_11)),(90,(ps xL1_0
 nL1_1 nL1_2 bL1_3 xL1_4 xL1_5 xL1_6 xL1_7 xL1_8 xL1_9 nL1_10 nL1_11)),(90,(ps xL2_0 nL2_1 nL2_2 bL2_3 xL2_4 xL2_5 xL2_6 xL2_7 xL2_8 xL2_9 nL2_10
 nL2_11))])
 := by intros; kernel_rfl
theorem x77_0 : ∀ (hk : Hk) (S : St) (Q : AV->St->Prop) (x : AL) (n6 : Int) (xL0_0 : AL) (nL0_1 nL0_2 : Int) (bL0_3 : Bool) (xL0_4 xL0_5 xL0_6 xL0_7 xL0_8 xL0_9 : AL) (nL0_10 nL0_11 : Int) (xL1_0 : AL) (nL1_1 nL1_2 : Int) (bL1_3 : Bool) (xL1_4 xL1_5 xL1_6 xL1_7 xL1_8 xL1_9 : AL) (nL1_10 nL1_11 : Int) (xL2_0 : AL) (nL2_1 nL2_2 : Int) (bL2_3 : Bool) (xL2_4 xL2_5 xL2_6 xL2_7 xL2_8
 xL2_9 : AL) (nL2_10 nL2_11 : Int) (S_1 : St),wCode.wEx true hk Tryz.prog (tabOf Tryz.prog) 140 Proofs.YtkdickfiifpblaaGreatDoor.D.pl77 1000 (.exit 1) [.blk 1,.seq (codeOf Tryz.prog 77 [1,1,0,0,1,0,1,0,1,0,1,1]),.seq (codeOf Tryz.prog 77 [1,1,0,0,1,0,1,1]),.blk 0,.seq (codeOf Tryz.prog 77 [1,1,1])] (wEnd (tabOf Tryz.prog) Tryz.f77 false S.boxes.length Q) [(6,.v (.one (.i
 n6))),(4,.v (.one x)),(3,.loc 2 0),(2,.loc 1 0),(1,.loc 0 0)] S_1 [(90,(ps xL0_0 nL0_1 nL0_2 bL0_3 xL0_4 xL0_5 xL0_6 xL0_7 xL0_8 xL0_9 nL0_10 nL0_11)),(90,(ps xL1_0 nL1_1 nL1_2 bL1_3 xL1_4 xL1_5 xL1_6 xL1_7 xL1_8 xL1_9 nL1_10 nL1_11)),(90,(ps xL2_0 nL2_1 nL2_2 bL2_3 xL2_4 xL2_5 xL2_6 xL2_7 xL2_8 xL2_9 nL2_10 nL2_11))]=(true=true/\Q (.agg (ps xL0_0 nL0_1 nL0_2 bL0_3 xL0_4 xL0_5
 xL0_6 xL0_7 xL0_8 xL0_9 nL0_10 nL0_11))
 S_1)
 := by intros; kernel_rfl
theorem b77_1 : ∀ (hk : Hk) (x : AL) (s : ByteArray) (n9 : Int) (xL0_0 : AL) (nL0_1 nL0_2 : Int) (bL0_3 : Bool) (xL0_4 xL0_5 xL0_6 xL0_7 xL0_8 xL0_9 : AL) (nL0_10 nL0_11 : Int) (xL1_0 : AL) (nL1_1 nL1_2 : Int) (bL1_3 : Bool) (xL1_4 xL1_5 xL1_6 xL1_7 xL1_8 xL1_9 : AL) (nL1_10 nL1_11 : Int) (xL2_0 : AL) (nL2_1 nL2_2 : Int) (bL2_3 : Bool) (xL2_4 xL2_5 xL2_6 xL2_7 xL2_8 xL2_9 : AL)
 (nL2_10 nL2_11 : Int) (xL3_0 : AL) (nL3_1 nL3_2 : Int) (bL3_3 : Bool) (xL3_4 xL3_5 xL3_6 xL3_7 xL3_8 xL3_9 : AL) (nL3_10 nL3_11 : Int) (S : St) (K : QW),wCode true hk Tryz.prog (tabOf Tryz.prog) 140 Proofs.YtkdickfiifpblaaGreatDoor.D.pl77 1000 (codeOf Tryz.prog 77 [1,1,0,0,1,0,1,1,1,1,0,1,0,0]) [] (fun e env S L => K e (restr [9,8,4,2,1] env) S L) [(9,.v (.one (.i n9))),(8,.v
 (.one (.str s))),(4,.v (.one x)),(2,.loc 1 0),(1,.loc 0 0)] S [(90,(ps xL0_0 nL0_1 nL0_2 bL0_3 xL0_4 xL0_5 xL0_6 xL0_7 xL0_8 xL0_9 nL0_10 nL0_11)),(90,(ps xL1_0 nL1_1 nL1_2 bL1_3 xL1_4 xL1_5 xL1_6 xL1_7 xL1_8 xL1_9 nL1_10 nL1_11)),(90,(ps xL2_0 nL2_1 nL2_2 bL2_3 xL2_4 xL2_5 xL2_6 xL2_7 xL2_8 xL2_9 nL2_10 nL2_11)),(90,(ps xL3_0 nL3_1 nL3_2 bL3_3 xL3_4 xL3_5 xL3_6 xL3_7 xL3_8
 xL3_9 nL3_10 nL3_11))]=∃ n,x.len?=some n/\(decide (n9 < (↑n : Int))=true->true=true/\∃ tok n xs,x=.sl tok n xs/\0<=n9/\n9 < (↑n : Int)/\∃ tok n xs_1,x=.sl tok n xs_1/\0<=n9/\n9 < (↑n : Int)/\(((∃ x,likeCells [.str k_] [x]=true/\(List.drop 1 (List.drop (n9.toNat * 4) xs))[0]?=some x)/\∀ (s_1 : ByteArray),(List.drop 1 (List.drop (n9.toNat * 4) xs))[0]?=some (.str s_1)->((∃
 x,likeCells [.str k_] [x]=true/\(List.drop 2 (List.drop (n9.toNat * 4) xs_1))[0]?=some x)/\∀ (s_2 : ByteArray),(List.drop 2 (List.drop (n9.toNat * 4) xs_1))[0]?=some (.str s_2)->(∃ R,hk.1 109 [.agg (ps xL0_0 nL0_1 nL0_2 bL0_3 xL0_4 xL0_5 xL0_6 xL0_7 xL0_8 xL0_9 nL0_10 nL0_11),.agg [.i 2,.str s_1,.str s_2,.str s]] S [(90,(ps xL0_0 nL0_1 nL0_2 bL0_3 xL0_4 xL0_5 xL0_6 xL0_7 xL0_8
 xL0_9 nL0_10 nL0_11)),(90,(ps xL1_0 nL1_1 nL1_2 bL1_3 xL1_4 xL1_5 xL1_6 xL1_7 xL1_8 xL1_9 nL1_10 nL1_11)),(90,(ps xL2_0 nL2_1 nL2_2 bL2_3 xL2_4 xL2_5 xL2_6 xL2_7 xL2_8 xL2_9 nL2_10 nL2_11)),(90,(ps xL3_0 nL3_1 nL3_2 bL3_3 xL3_4 xL3_5 xL3_6 xL3_7 xL3_8 xL3_9 nL3_10 nL3_11))] R/\∀ (x_1 : AL) (n n_1 : Int) (b : Bool) (x_2 x_3 x_4 x_5 x_6 x_7 : AL) (n_2 n_3 : Int) (S1 : St),R (.agg
 (ps x_1 n n_1 b x_2 x_3 x_4 x_5 x_6 x_7 n_2 n_3)) S1->(in64 (n9 + 1)/\K .normal [(9,.v (.one (.i (n9 + 1)))),(8,.v (.one (.str s))),(4,.v (.one x)),(2,.loc 1 0),(1,.loc 0 0)] S1 [(90,(ps x_1 n n_1 b x_2 x_3 x_4 x_5 x_6 x_7 n_2 n_3)),(90,(ps xL1_0 nL1_1 nL1_2 bL1_3 xL1_4 xL1_5 xL1_6 xL1_7 xL1_8 xL1_9 nL1_10 nL1_11)),(90,(ps xL2_0 nL2_1 nL2_2 bL2_3 xL2_4 xL2_5 xL2_6 xL2_7 xL2_8
 xL2_9 nL2_10 nL2_11)),(90,(ps xL3_0 nL3_1 nL3_2 bL3_3 xL3_4 xL3_5 xL3_6 xL3_7 xL3_8 xL3_9 nL3_10 nL3_11))])/\True)/\True)/\True)/\((∃ x,likeCells [.str k_] [x]=true/\(List.drop 2 (List.drop (n9.toNat * 4) xs_1))[0]?=some x)/\∀ (s_1 : ByteArray),(List.drop 2 (List.drop (n9.toNat * 4) xs_1))[0]?=some (.str s_1)->((∃ x,likeCells [.str k_] [x]=true/\(List.drop 1 (List.drop
 (n9.toNat * 4) xs))[0]?=some x)/\∀ (s_2 : ByteArray),(List.drop 1 (List.drop (n9.toNat * 4) xs))[0]?=some (.str s_2)->(∃ R,hk.1 109 [.agg (ps xL0_0 nL0_1 nL0_2 bL0_3 xL0_4 xL0_5 xL0_6 xL0_7 xL0_8 xL0_9 nL0_10 nL0_11),.agg [.i 2,.str s_2,.str s_1,.str s]] S [(90,(ps xL0_0 nL0_1 nL0_2 bL0_3 xL0_4 xL0_5 xL0_6 xL0_7 xL0_8 xL0_9 nL0_10 nL0_11)),(90,(ps xL1_0 nL1_1 nL1_2 bL1_3 xL1_4
 xL1_5 xL1_6 xL1_7 xL1_8 xL1_9 nL1_10 nL1_11)),(90,(ps xL2_0 nL2_1 nL2_2 bL2_3 xL2_4 xL2_5 xL2_6 xL2_7 xL2_8 xL2_9 nL2_10 nL2_11)),(90,(ps xL3_0 nL3_1 nL3_2 bL3_3 xL3_4 xL3_5 xL3_6 xL3_7 xL3_8 xL3_9 nL3_10 nL3_11))] R/\∀ (x_1 : AL) (n n_1 : Int) (b : Bool) (x_2 x_3 x_4 x_5 x_6 x_7 : AL) (n_2 n_3 : Int) (S1 : St),R (.agg (ps x_1 n n_1 b x_2 x_3 x_4 x_5 x_6 x_7 n_2 n_3)) S1->(in64
 (n9 + 1)/\K .normal [(9,.v (.one (.i (n9 + 1)))),(8,.v (.one (.str s))),(4,.v (.one x)),(2,.loc 1 0),(1,.loc 0 0)] S1 [(90,(ps x_1 n n_1 b x_2 x_3 x_4 x_5 x_6 x_7 n_2 n_3)),(90,(ps xL1_0 nL1_1 nL1_2 bL1_3 xL1_4 xL1_5 xL1_6 xL1_7 xL1_8 xL1_9 nL1_10 nL1_11)),(90,(ps xL2_0 nL2_1 nL2_2 bL2_3 xL2_4 xL2_5 xL2_6 xL2_7 xL2_8 xL2_9 nL2_10 nL2_11)),(90,(ps xL3_0 nL3_1 nL3_2 bL3_3 xL3_4
 xL3_5 xL3_6 xL3_7 xL3_8 xL3_9 nL3_10 nL3_11))])/\True)/\True)/\True)/\True)/\((∃ x,likeCells [.str k_] [x]=true/\(List.drop 1 (List.drop (n9.toNat * 4) xs))[0]?=some x)/\∀ (s_1 : ByteArray),(List.drop 1 (List.drop (n9.toNat * 4) xs))[0]?=some (.str s_1)->(((∃ x,likeCells [.str k_] [x]=true/\(List.drop 2 (List.drop (n9.toNat * 4) xs_1))[0]?=some x)/\∀ (s_2 :
 ByteArray),(List.drop 2 (List.drop (n9.toNat * 4) xs_1))[0]?=some (.str s_2)->(∃ R,hk.1 109 [.agg (ps xL0_0 nL0_1 nL0_2 bL0_3 xL0_4 xL0_5 xL0_6 xL0_7 xL0_8 xL0_9 nL0_10 nL0_11),.agg [.i 2,.str s_1,.str s_2,.str s]] S [(90,(ps xL0_0 nL0_1 nL0_2 bL0_3 xL0_4 xL0_5 xL0_6 xL0_7 xL0_8 xL0_9 nL0_10 nL0_11)),(90,(ps xL1_0 nL1_1 nL1_2 bL1_3 xL1_4 xL1_5 xL1_6 xL1_7 xL1_8 xL1_9 nL1_10
 nL1_11)),(90,(ps xL2_0 nL2_1 nL2_2 bL2_3 xL2_4 xL2_5 xL2_6 xL2_7 xL2_8 xL2_9 nL2_10 nL2_11)),(90,(ps xL3_0 nL3_1 nL3_2 bL3_3 xL3_4 xL3_5 xL3_6 xL3_7 xL3_8 xL3_9 nL3_10 nL3_11))] R/\∀ (x_1 : AL) (n n_1 : Int) (b : Bool) (x_2 x_3 x_4 x_5 x_6 x_7 : AL) (n_2 n_3 : Int) (S1 : St),R (.agg (ps x_1 n n_1 b x_2 x_3 x_4 x_5 x_6 x_7 n_2 n_3)) S1->(in64 (n9 + 1)/\K .normal [(9,.v (.one (.i
 (n9 + 1)))),(8,.v (.one (.str s))),(4,.v (.one x)),(2,.loc 1 0),(1,.loc 0 0)] S1 [(90,(ps x_1 n n_1 b x_2 x_3 x_4 x_5 x_6 x_7 n_2 n_3)),(90,(ps xL1_0 nL1_1 nL1_2 bL1_3 xL1_4 xL1_5 xL1_6 xL1_7 xL1_8 xL1_9 nL1_10 nL1_11)),(90,(ps xL2_0 nL2_1 nL2_2 bL2_3 xL2_4 xL2_5 xL2_6 xL2_7 xL2_8 xL2_9 nL2_10 nL2_11)),(90,(ps xL3_0 nL3_1 nL3_2 bL3_3 xL3_4 xL3_5 xL3_6 xL3_7 xL3_8 xL3_9 nL3_10
 nL3_11))])/\True)/\True)/\True)/\((∃ x,likeCells [.str k_] [x]=true/\(List.drop 2 (List.drop (n9.toNat * 4) xs_1))[0]?=some x)/\∀ (s_2 : ByteArray),(List.drop 2 (List.drop (n9.toNat * 4) xs_1))[0]?=some (.str s_2)->((∃ R,hk.1 109 [.agg (ps xL0_0 nL0_1 nL0_2 bL0_3 xL0_4 xL0_5 xL0_6 xL0_7 xL0_8 xL0_9 nL0_10 nL0_11),.agg [.i 2,.str s_1,.str s_2,.str s]] S [(90,(ps xL0_0 nL0_1
 nL0_2 bL0_3 xL0_4 xL0_5 xL0_6 xL0_7 xL0_8 xL0_9 nL0_10 nL0_11)),(90,(ps xL1_0 nL1_1 nL1_2 bL1_3 xL1_4 xL1_5 xL1_6 xL1_7 xL1_8 xL1_9 nL1_10 nL1_11)),(90,(ps xL2_0 nL2_1 nL2_2 bL2_3 xL2_4 xL2_5 xL2_6 xL2_7 xL2_8 xL2_9 nL2_10 nL2_11)),(90,(ps xL3_0 nL3_1 nL3_2 bL3_3 xL3_4 xL3_5 xL3_6 xL3_7 xL3_8 xL3_9 nL3_10 nL3_11))] R/\∀ (x_1 : AL) (n n_1 : Int) (b : Bool) (x_2 x_3 x_4 x_5 x_6
 x_7 : AL) (n_2 n_3 : Int) (S1 : St),R (.agg (ps x_1 n n_1 b x_2 x_3 x_4 x_5 x_6 x_7 n_2 n_3)) S1->(in64 (n9 + 1)/\K .normal [(9,.v (.one (.i (n9 + 1)))),(8,.v (.one (.str s))),(4,.v (.one x)),(2,.loc 1 0),(1,.loc 0 0)] S1 [(90,(ps x_1 n n_1 b x_2 x_3 x_4 x_5 x_6 x_7 n_2 n_3)),(90,(ps xL1_0 nL1_1 nL1_2 bL1_3 xL1_4 xL1_5 xL1_6 xL1_7 xL1_8 xL1_9 nL1_10 nL1_11)),(90,(ps xL2_0 nL2_1
 nL2_2 bL2_3 xL2_4 xL2_5 xL2_6 xL2_7 xL2_8 xL2_9 nL2_10 nL2_11)),(90,(ps xL3_0 nL3_1 nL3_2 bL3_3 xL3_4 xL3_5 xL3_6 xL3_7 xL3_8 xL3_9 nL3_10 nL3_11))])/\True)/\True)/\True)/\True)/\((∃ x,likeCells [.str k_] [x]=true/\(List.drop 2 (List.drop (n9.toNat * 4) xs_1))[0]?=some x)/\∀ (s_1 : ByteArray),(List.drop 2 (List.drop (n9.toNat * 4) xs_1))[0]?=some (.str s_1)->(((∃ x,likeCells
 [.str k_] [x]=true/\(List.drop 1 (List.drop (n9.toNat * 4) xs))[0]?=some x)/\∀ (s_2 : ByteArray),(List.drop 1 (List.drop (n9.toNat * 4) xs))[0]?=some (.str s_2)->(∃ R,hk.1 109 [.agg (ps xL0_0 nL0_1 nL0_2 bL0_3 xL0_4 xL0_5 xL0_6 xL0_7 xL0_8 xL0_9 nL0_10 nL0_11),.agg [.i 2,.str s_2,.str s_1,.str s]] S [(90,(ps xL0_0 nL0_1 nL0_2 bL0_3 xL0_4 xL0_5 xL0_6 xL0_7 xL0_8 xL0_9 nL0_10
 nL0_11)),(90,(ps xL1_0 nL1_1 nL1_2 bL1_3 xL1_4 xL1_5 xL1_6 xL1_7 xL1_8 xL1_9 nL1_10 nL1_11)),(90,(ps xL2_0 nL2_1 nL2_2 bL2_3 xL2_4 xL2_5 xL2_6 xL2_7 xL2_8 xL2_9 nL2_10 nL2_11)),(90,(ps xL3_0 nL3_1 nL3_2 bL3_3 xL3_4 xL3_5 xL3_6 xL3_7 xL3_8 xL3_9 nL3_10 nL3_11))] R/\∀ (x_1 : AL) (n n_1 : Int) (b : Bool) (x_2 x_3 x_4 x_5 x_6 x_7 : AL) (n_2 n_3 : Int) (S1 : St),R (.agg (ps x_1 n
 n_1 b x_2 x_3 x_4 x_5 x_6 x_7 n_2 n_3)) S1->(in64 (n9 + 1)/\K .normal [(9,.v (.one (.i (n9 + 1)))),(8,.v (.one (.str s))),(4,.v (.one x)),(2,.loc 1 0),(1,.loc 0 0)] S1 [(90,(ps x_1 n n_1 b x_2 x_3 x_4 x_5 x_6 x_7 n_2 n_3)),(90,(ps xL1_0 nL1_1 nL1_2 bL1_3 xL1_4 xL1_5 xL1_6 xL1_7 xL1_8 xL1_9 nL1_10 nL1_11)),(90,(ps xL2_0 nL2_1 nL2_2 bL2_3 xL2_4 xL2_5 xL2_6 xL2_7 xL2_8 xL2_9
 nL2_10 nL2_11)),(90,(ps xL3_0 nL3_1 nL3_2 bL3_3 xL3_4 xL3_5 xL3_6 xL3_7 xL3_8 xL3_9 nL3_10 nL3_11))])/\True)/\True)/\True)/\((∃ x,likeCells [.str k_] [x]=true/\(List.drop 1 (List.drop (n9.toNat * 4) xs))[0]?=some x)/\∀ (s_2 : ByteArray),(List.drop 1 (List.drop (n9.toNat * 4) xs))[0]?=some (.str s_2)->((∃ R,hk.1 109 [.agg (ps xL0_0 nL0_1 nL0_2 bL0_3 xL0_4 xL0_5 xL0_6 xL0_7 xL0_8
 xL0_9 nL0_10 nL0_11),.agg [.i 2,.str s_2,.str s_1,.str s]] S [(90,(ps xL0_0 nL0_1 nL0_2 bL0_3 xL0_4 xL0_5 xL0_6 xL0_7 xL0_8 xL0_9 nL0_10 nL0_11)),(90,(ps xL1_0 nL1_1 nL1_2 bL1_3 xL1_4 xL1_5 xL1_6 xL1_7 xL1_8 xL1_9 nL1_10 nL1_11)),(90,(ps xL2_0 nL2_1 nL2_2 bL2_3 xL2_4 xL2_5 xL2_6 xL2_7 xL2_8 xL2_9 nL2_10 nL2_11)),(90,(ps xL3_0 nL3_1 nL3_2 bL3_3 xL3_4 xL3_5 xL3_6 xL3_7 xL3_8
 xL3_9 nL3_10 nL3_11))] R/\∀ (x_1 : AL) (n n_1 : Int) (b : Bool) (x_2 x_3 x_4 x_5 x_6 x_7 : AL) (n_2 n_3 : Int) (S1 : St),R (.agg (ps x_1 n n_1 b x_2 x_3 x_4 x_5 x_6 x_7 n_2 n_3)) S1->(in64 (n9 + 1)/\K .normal [(9,.v (.one (.i (n9 + 1)))),(8,.v (.one (.str s))),(4,.v (.one x)),(2,.loc 1 0),(1,.loc 0 0)] S1 [(90,(ps x_1 n n_1 b x_2 x_3 x_4 x_5 x_6 x_7 n_2 n_3)),(90,(ps xL1_0
 nL1_1 nL1_2 bL1_3 xL1_4 xL1_5 xL1_6 xL1_7 xL1_8 xL1_9 nL1_10 nL1_11)),(90,(ps xL2_0 nL2_1 nL2_2 bL2_3 xL2_4 xL2_5 xL2_6 xL2_7 xL2_8 xL2_9 nL2_10 nL2_11)),(90,(ps xL3_0 nL3_1 nL3_2 bL3_3 xL3_4 xL3_5 xL3_6 xL3_7 xL3_8 xL3_9 nL3_10 nL3_11))])/\True)/\True)/\True)/\True)/\True)/\(decide (n9 < (↑n : Int))=false->K (.exit 3) [(9,.v (.one (.i n9))),(8,.v (.one (.str s))),(4,.v (.one
 x)),(2,.loc 1 0),(1,.loc 0 0)] S [(90,(ps xL0_0 nL0_1 nL0_2 bL0_3 xL0_4 xL0_5 xL0_6 xL0_7 xL0_8 xL0_9 nL0_10 nL0_11)),(90,(ps xL1_0 nL1_1 nL1_2 bL1_3 xL1_4 xL1_5 xL1_6 xL1_7 xL1_8 xL1_9 nL1_10 nL1_11)),(90,(ps xL2_0 nL2_1 nL2_2 bL2_3 xL2_4 xL2_5 xL2_6 xL2_7 xL2_8 xL2_9 nL2_10 nL2_11)),(90,(ps xL3_0 nL3_1 nL3_2 bL3_3 xL3_4 xL3_5 xL3_6 xL3_7 xL3_8 xL3_9 nL3_10
 nL3_11))])
 := by intros; kernel_rfl
theorem x77_1 : ∀ (hk : Hk) (S : St) (Q : AV->St->Prop) (x : AL) (s : ByteArray) (n9 : Int) (xL0_0 : AL) (nL0_1 nL0_2 : Int) (bL0_3 : Bool) (xL0_4 xL0_5 xL0_6 xL0_7 xL0_8 xL0_9 : AL) (nL0_10 nL0_11 : Int) (xL1_0 : AL) (nL1_1 nL1_2 : Int) (bL1_3 : Bool) (xL1_4 xL1_5 xL1_6 xL1_7 xL1_8 xL1_9 : AL) (nL1_10 nL1_11 : Int) (xL2_0 : AL) (nL2_1 nL2_2 : Int) (bL2_3 : Bool) (xL2_4 xL2_5
 xL2_6 xL2_7 xL2_8 xL2_9 : AL) (nL2_10 nL2_11 : Int) (xL3_0 : AL) (nL3_1 nL3_2 : Int) (bL3_3 : Bool) (xL3_4 xL3_5 xL3_6 xL3_7 xL3_8 xL3_9 : AL) (nL3_10 nL3_11 : Int) (S_1 : St),wCode.wEx true hk Tryz.prog (tabOf Tryz.prog) 140 Proofs.YtkdickfiifpblaaGreatDoor.D.pl77 1000 (.exit 3) [.blk 3,.seq (codeOf Tryz.prog 77 [1,1,0,0,1,0,1,1,1,1,1]),.blk 0,.seq (codeOf Tryz.prog 77
 [1,1,1])] (wEnd (tabOf Tryz.prog) Tryz.f77 false S.boxes.length Q) [(9,.v (.one (.i n9))),(8,.v (.one (.str s))),(4,.v (.one x)),(2,.loc 1 0),(1,.loc 0 0)] S_1 [(90,(ps xL0_0 nL0_1 nL0_2 bL0_3 xL0_4 xL0_5 xL0_6 xL0_7 xL0_8 xL0_9 nL0_10 nL0_11)),(90,(ps xL1_0 nL1_1 nL1_2 bL1_3 xL1_4 xL1_5 xL1_6 xL1_7 xL1_8 xL1_9 nL1_10 nL1_11)),(90,(ps xL2_0 nL2_1 nL2_2 bL2_3 xL2_4 xL2_5 xL2_6
 xL2_7 xL2_8 xL2_9 nL2_10 nL2_11)),(90,(ps xL3_0 nL3_1 nL3_2 bL3_3 xL3_4 xL3_5 xL3_6 xL3_7 xL3_8 xL3_9 nL3_10 nL3_11))]=(true=true/\Q (.agg (ps xL0_0 nL0_1 nL0_2 bL0_3 xL0_4 xL0_5 xL0_6 xL0_7 xL0_8 xL0_9 nL0_10 nL0_11))
 S_1)
 := by intros; kernel_rfl
theorem v39 : ∀ (hk : Hk) (s0 : ByteArray) (b1 : Bool) (S : St) (Q : AV->St->Prop),wFn true hk Tryz.prog (tabOf Tryz.prog) Proofs.YtkdickfiifpblaaGreatDoor.D.pl39 false 39 [.one (.str s0),.one (.bool b1)] S Q=(true=true/\∃ R,hk.1 64 [.one (.str s0),.one (.bool b1)] S [(30,n5)] R/\∀ (x : AL) (n : Int) (S1 : St),R (.tup [.one x,.one (.i n)]) S1->(decide (n ≥ 0)=true->true=true/\Q
 (.tup [.agg n5,.one (.i n)]) S1)/\(decide (n ≥ 0)=false->hk.2 53 (codeOf Tryz.prog 39 [1,1,1,1,0,0,0]) [.blk 0,.seq (codeOf Tryz.prog 39 [1,1,1,1,1])] (wEnd (tabOf Tryz.prog) Tryz.f39 false S.boxes.length Q) [(8,.loc 1 0),(23,.v (.agg (ps x 0 (↑s0.size : Int) b1 .nilsl .nilsl .nilsl .nilsl .nilsl .nilsl (-1) 0))),(22,.v (.one (.bool b1))),(21,.v (.one (.i (↑s0.size :
 Int)))),(20,.v (.one (.str s0))),(19,.v (.one x)),(16,.v (.one (.bool (decide (n ≥ 0))))),(15,.v (.one (.i n))),(7,.v (.one (.i n))),(6,.v (.one x)),(14,.v (.one (.i n))),(13,.v (.one x)),(9,.v (.tup [.one x,.one (.i n)])),(12,.v (.tup [.one x,.one (.i n)])),(11,.v (.one (.bool b1))),(10,.v (.one (.str s0))),(5,.v (.one (.i 0))),(4,.loc 0 0),(0,.v (.one (.str s0))),(1,.v (.one
 (.bool b1)))] S1 [(30,n5),(90,(ps x 0 (↑s0.size : Int) b1 .nilsl .nilsl .nilsl .nilsl .nilsl .nilsl (-1)
 0))]))
 := by intros; kernel_rfl
theorem b39_0 : ∀ (hk : Hk) (xL0_0 xL0_1 xL0_2 xL0_3 xL0_4 xL1_0 : AL) (nL1_1 nL1_2 : Int) (bL1_3 : Bool) (xL1_4 xL1_5 xL1_6 xL1_7 xL1_8 xL1_9 : AL) (nL1_10 nL1_11 : Int) (S : St) (K : QW),wCode true hk Tryz.prog (tabOf Tryz.prog) 53 Proofs.YtkdickfiifpblaaGreatDoor.D.pl39 1000 (codeOf Tryz.prog 39 [1,1,1,1,0,0,0]) [] (fun e env S L => K e (restr [8,5,4] env) S L) [(8,.loc 1
 0),(5,.v (.one (.i 0))),(4,.loc 0 0)] S [(30,[xL0_0,xL0_1,xL0_2,xL0_3,xL0_4]),(90,(ps xL1_0 nL1_1 nL1_2 bL1_3 xL1_4 xL1_5 xL1_6 xL1_7 xL1_8 xL1_9 nL1_10 nL1_11))]=((decide (nL1_10 < 0)=true->∃ n,xL1_0.len?=some n/\(decide (nL1_1 < (↑n : Int))=true->∃ R,hk.1 65 [.agg (ps xL1_0 nL1_1 nL1_2 bL1_3 xL1_4 xL1_5 xL1_6 xL1_7 xL1_8 xL1_9 nL1_10 nL1_11)] S
 [(30,[xL0_0,xL0_1,xL0_2,xL0_3,xL0_4]),(90,(ps xL1_0 nL1_1 nL1_2 bL1_3 xL1_4 xL1_5 xL1_6 xL1_7 xL1_8 xL1_9 nL1_10 nL1_11))] R/\∀ (x : AL) (n n_1 : Int) (b : Bool) (x_1 x_2 x_3 x_4 x_5 x_6 : AL) (n_2 n_3 : Int) (S1 : St),R (.agg (ps x n n_1 b x_1 x_2 x_3 x_4 x_5 x_6 n_2 n_3)) S1->K .normal [(8,.loc 1 0),(5,.v (.one (.i 0))),(4,.loc 0 0)] S1
 [(30,[xL0_0,xL0_1,xL0_2,xL0_3,xL0_4]),(90,(ps x n n_1 b x_1 x_2 x_3 x_4 x_5 x_6 n_2 n_3))])/\(decide (nL1_1 < (↑n : Int))=false->K (.exit 0) [(8,.loc 1 0),(5,.v (.one (.i 0))),(4,.loc 0 0)] S [(30,[xL0_0,xL0_1,xL0_2,xL0_3,xL0_4]),(90,(ps xL1_0 nL1_1 nL1_2 bL1_3 xL1_4 xL1_5 xL1_6 xL1_7 xL1_8 xL1_9 nL1_10 nL1_11))]))/\(decide (nL1_10 < 0)=false->K (.exit 0) [(8,.loc 1 0),(5,.v
 (.one (.i 0))),(4,.loc 0 0)] S [(30,[xL0_0,xL0_1,xL0_2,xL0_3,xL0_4]),(90,(ps xL1_0 nL1_1 nL1_2 bL1_3 xL1_4 xL1_5 xL1_6 xL1_7 xL1_8 xL1_9 nL1_10
 nL1_11))]))
 := by intros; kernel_rfl
theorem x39_0 : ∀ (hk : Hk) (S : St) (Q : AV->St->Prop) (xL0_0 xL0_1 xL0_2 xL0_3 xL0_4 xL1_0 : AL) (nL1_1 nL1_2 : Int) (bL1_3 : Bool) (xL1_4 xL1_5 xL1_6 xL1_7 xL1_8 xL1_9 : AL) (nL1_10 nL1_11 : Int) (S_1 : St),wCode.wEx true hk Tryz.prog (tabOf Tryz.prog) 53 Proofs.YtkdickfiifpblaaGreatDoor.D.pl39 1000 (.exit 0) [.blk 0,.seq (codeOf Tryz.prog 39 [1,1,1,1,1])] (wEnd (tabOf
 Tryz.prog) Tryz.f39 false S.boxes.length Q) [(8,.loc 1 0),(5,.v (.one (.i 0))),(4,.loc 0 0)] S_1 [(30,[xL0_0,xL0_1,xL0_2,xL0_3,xL0_4]),(90,(ps xL1_0 nL1_1 nL1_2 bL1_3 xL1_4 xL1_5 xL1_6 xL1_7 xL1_8 xL1_9 nL1_10 nL1_11))]=((decide (nL1_10 ≥ 0)=true->true=true/\((true=true/\Q (.tup [.agg n5,.one (.i nL1_10)]) S_1)/\True)/\((true=true/\Q (.tup [.agg n5,.one (.i nL1_10)])
 S_1)/\True)/\True)/\(decide (nL1_10 ≥ 0)=false->26=26/\∃ r S',dAppend2 (tabOf Tryz.prog) 26 xL1_6 xL1_9 S_1=some (r,S')/\true=true/\Q (.tup [.agg [xL1_4,xL1_5,r,xL1_7,xL1_8],.one (.i (-1))])
 S'))
 := by intros; kernel_rfl
end Go.Proofs.YtkdickfiifpblaaGreatDoor.D
namespace Go.Proofs.YtkdickfiifpblaaGreatDoor.D
open Go Go.Den Go.Proofs
set_option maxRecDepth 100000
variable {w0 : World}
section
variable {G3 : AL → Int → Int → Bool → AL → AL → AL → AL → AL → AL → Int → Int → AL → Bool → St → Prop}
variable {S S0 : St} {L : Lo} {B : Nat} {p q : PS} {t : Int}
theorem stL (hA : At B p S0 t q S) (h0 : 0 ≤ t) (o : Bool)
    (k : ∀ q2 x b xs S1, At B p S0 1 q2 S1 → Val B x xs → G3 (.sl q2.tt q2.toks.length (tkCells q2.toks)) q2.at_ q2.en q2.sc q2.xr q2.xi q2.xe q2.xs q2.xx q2.xl q2.bad q2.deep x b S1) :
    ∃ R, (realHk Tryz.prog w0 (tabOf Tryz.prog)).1 105 [q.av, bool o] S L R ∧ ∀ (x : AL) (n n_1 : Int) (b : Bool) (x_1 x_2 x_3 x_4 x_5 x_6 : AL) (n_2 n_3 : Int) (x_7 : AL) (b_1 : Bool) (S1 : St), R (AV.tup [AV.agg [x, AL.int IntKind.i64 n, AL.int IntKind.i64 n_1, AL.bool b, x_1, x_2, x_3, x_4, x_5, x_6, AL.int IntKind.i64 n_2, AL.int IntKind.i64 n_3], .one x_7, .one (.bool b_1)]) S1 → G3 x n n_1 b x_1 x_2 x_3 x_4 x_5 x_6 n_2 n_3 x_7 b_1 S1 := by
  refine ⟨_, (l4List_c B q o).use S L hA.pre, ?_⟩
  rintro x n n1 b x1 x2 x3 x4 x5 x6 n2 n3 x7 b1 S1 ⟨hB, q2, x8, b2, xs, hq, h1, h2, h3, h4, _⟩
  cases hq
  exact k q2 x7 b1 xs S1 (hA.by1 h0 hB h1 h2 h3) h4
end
theorem xp_get (xs : List Xp) (i : Int) (h0 : 0 ≤ i) (h1 : i < xs.length) : ∃ t, t ∈ xs ∧ (List.drop 1 (List.drop (i.toNat * 4) (xs.flatMap Xp.cells)))[0]? = some (.str t.name) ∧ (List.drop 2 (List.drop (i.toNat * 4) (xs.flatMap Xp.cells)))[0]? = some (.str t.loc) := by
  have hl : i.toNat < xs.length := by omega
  have key := fun j hj => flat_get Xp.cells 4 (fun _ => rfl) xs i.toNat j _ (List.getElem?_eq_getElem hl) hj
  exact ⟨_, List.getElem_mem hl, key 1 (by omega), key 2 (by omega)⟩
def iImp (B : Nat) (p : PS) (S0 : St) (s : ByteArray) (x : AL) (xs : List Xp) (qa qb : PS) : Nat → KE := fun m env S' L => ∃ (q : PS) (i : Int), env = [(8, .v (int i)), (7, .v (str s)), (4, .v (.one x)), (2, .loc 1 0), (1, .loc 0 0)] ∧
  L = [(90, q.cs), (90, nlc), (90, qa.cs), (90, qb.cs)] ∧ At B p S0 1 q S' ∧ 0 ≤ i ∧ i ≤ xs.length ∧ (m : Int) = xs.length - i
theorem l4Import_c (B : Nat) (p : PS) : CONP w0 76 [p.av] (pre B p) (M B (K1 p)) := by
  refine ConP.of_gen (plans := pl76) hT hmo (nov := true) pre_loc M_loc (M_sh ⟨Tryz.f76, by kernel_rfl, fun q => by kernel_rfl⟩) (fun S hp => ?_)
  rw [v76]
  have hf := hp.1
  refine ⟨rfl, st1 (l4Word_c B p hf _) (At.start hp) (Int.le_refl 0) fun q1 S1 h1 => stIs h1 _ _ fun b S2 h1 _ => ⟨fun _ => ?_, fun _ => stIs h1 _ _ fun b2 S3 h1 _ => ⟨fun _ => ?_, fun _ => ?_⟩⟩⟩
  · refine stL h1 (by omega) false fun qa x b xs S4 h2 hv => st1 (l4Word_c B qa h2.pf _) h2 (by omega) fun q3 S5 h3 => stN (l4Spec_c B q3) h3 (by omega) fun qb s S6 h4 _ => st1 (l4Sign_c B qb h4.pf _) h4 (by omega) fun q5 S7 h5 => ?_
    refine ⟨[8, 7, 4, 2, 1], iImp B p S s x xs qa qb, xs.length, ⟨q5, 0, rfl, rfl, h5, by omega, by omega, by omega⟩, ?_⟩
    rintro m env S8 L1 ⟨q, i, rfl, rfl, hA, i0, i1, hm⟩
    refine WSem.of hT hmo (nov := true) (plans := pl76) (f := 1000) ?_
    rw [b76_0]
    refine ⟨_, hv.1, fun hlt => ?_, fun hlt => ?_⟩
    · have hlt := of_decide_eq_true hlt
      obtain ⟨tk, hx⟩ := hv.2.1 (by omega)
      obtain ⟨u, hu, g1, g2⟩ := xp_get xs i i0 hlt
      refine ⟨rfl, _, _, _, hx, i0, hlt, _, _, _, hx, i0, hlt, ?_⟩
      have hlen := hv.2.2.1
      repeat' first
        | exact True.intro
        | exact st0 (l4Imp_c B q ⟨s, u.loc, u.name⟩ (hA.ha hf) (Nat.le_trans (hv.2.2.2 u hu) (Nat.le_add_right _ _))) hA fun q2 S2 hA2 => ⟨⟨by unfold in64; omega, loopK.again (L' := [(90, q2.cs), (90, nlc), (90, qa.cs), (90, qb.cs)]) (m' := m - 1) ⟨(by decide : (1 : Nat) < 4), (by decide : (0 : Nat) < 4), trivial⟩ rfl (by omega) ⟨q2, i + 1, rfl, rfl, hA2, by omega, by omega, by omega⟩⟩, trivial⟩
        | exact ⟨_, rfl, g1⟩
        | exact ⟨_, rfl, g2⟩
        | (intro s1 hs; first | (rw [g1] at hs; cases hs; done) | (rw [g2] at hs; cases hs; done) | (rw [g1] at hs; cases hs) | (rw [g2] at hs; cases hs))
        | apply And.intro
    · refine loopK.exit (L' := [(90, q.cs), (90, nlc), (90, qa.cs), (90, qb.cs)]) ⟨(by decide : (1 : Nat) < 4), (by decide : (0 : Nat) < 4), trivial⟩ rfl (kont.of hT hmo (nov := true) (plans := pl76) (f := 1000) ?_)
      rw [x76_0]
      exact ⟨rfl, hA.done⟩
  · refine st1 (l4Sign_c B q1 h1.pf _) h1 (by omega) fun q2 S4 h2 => st1 (l4Word_c B q2 h2.pf _) h2 (by omega) fun q3 S5 h3 => stN (l4Name_c B q3 h3.pf false) h3 (by omega) fun q4 n S6 h4 hz => st1 (l4Word_c B q4 h4.pf _) h4 (by omega) fun q5 S7 h5 => stN (l4Spec_c B q5) h5 (by omega) fun q6 s S8 h6 _ => st1 (l4Sign_c B q6 h6.pf _) h6 (by omega) fun q7 S9 h7 => st0 (l4Imp_c B q7 ⟨s, _, n⟩ (h7.ha hf) (Nat.le_trans hz.2 (Nat.le_add_right _ _))) h7 fun q8 S10 h8 => ⟨rfl, h8.done⟩
  · refine ⟨_, (l4Plain_ok B q1 h1.pf false).use S3 _, ?_⟩
    rintro b S4 ⟨hE, b', hb, _⟩
    cases hb
    have h1 := h1.ext hE
    refine ⟨fun _ => stN (l4Name_c B q1 h1.pf false) h1 (by omega) fun q4 n S6 h4 hz => st1 (l4Word_c B q4 h4.pf _) h4 (by omega) fun q5 S7 h5 => stN (l4Spec_c B q5) h5 (by omega) fun q6 s S8 h6 _ => st1 (l4Sign_c B q6 h6.pf _) h6 (by omega) fun q7 S9 h7 => st0 (l4Imp_c B q7 ⟨s, _, n⟩ (h7.ha hf) (Nat.le_trans hz.2 (Nat.le_add_right _ _))) h7 fun q8 S10 h8 => ⟨rfl, h8.done⟩,
      fun _ => stN (l4Spec_c B q1) h1 (by omega) fun q6 s S8 h6 _ => st1 (l4Sign_c B q6 h6.pf _) h6 (by omega) fun q7 S9 h7 => ⟨rfl, h7.done⟩⟩
end Go.Proofs.YtkdickfiifpblaaGreatDoor.D
namespace Go.Proofs.YtkdickfiifpblaaGreatDoor.D
open Go Go.Den Go.Proofs
set_option maxRecDepth 100000
variable {w0 : World}
def Good (p : PS) : Prop := ∀ s, s ∈ p.stmts → (s.k = 1 → s.name = dflt → ∃ x, x ∈ p.exps ++ p.last ∧ x.k = 1 ∧ x.loc = dflt) ∧ (s.k = 2 → s.name ≠ dflt)
def Mv (p q : PS) : Prop := G p q ∧ (q.bad < 0 → p.at_ < q.at_ ∧ (Good p → Good q))
theorem Tname.ne {s : ByteArray} (h : Tname s) : s ≠ dflt := by
  rintro rfl
  exact h.2 (by kernel_rfl)
theorem Mv.of_k1 {p q : PS} (h : K1 p q) : Mv p q := ⟨h.1.toG, fun hb => ⟨h.2 hb, fun hg => by
  obtain ⟨a, b, c⟩ := h.1.same hb
  unfold Good
  rw [a, b, c]
  exact hg⟩⟩
theorem TookE.mem {p q : PS} {x : Xp} (h : TookE p q x) (hb : q.bad < 0) : q.stmts = p.stmts ∧ ∀ y, y ∈ p.exps ++ p.last ∨ y = x → y ∈ q.exps ++ q.last := by
  obtain ⟨a, b⟩ := h.2 hb
  refine ⟨a, fun y hy => ?_⟩
  rcases b with ⟨_, b, c⟩ | ⟨_, b, c⟩ <;> rw [b, c] <;> rcases hy with hy | rfl
  · rw [← List.append_assoc]
    exact List.mem_append_left _ hy
  · simp
  · rcases List.mem_append.1 hy with hy | hy <;> simp [hy]
  · simp
theorem Good.exp {p q : PS} {x : Xp} (h : TookE p q x) (hb : q.bad < 0) (hg : Good p) : Good q := by
  obtain ⟨a, b⟩ := h.mem hb
  intro s hs
  rw [a] at hs
  refine ⟨fun h1 h2 => ?_, (hg s hs).2⟩
  obtain ⟨y, h3, h4⟩ := (hg s hs).1 h1 h2
  exact ⟨y, b y (.inl h3), h4⟩
theorem Good.stmt {p q : PS} {k : Int} {n : ByteArray} (h : TookS p q k n) (hb : q.bad < 0) (hn : n ≠ dflt) (hg : Good p) : Good q := by
  obtain ⟨a, b, e, c⟩ := h.2 hb
  intro s hs
  rw [c] at hs
  rw [a, b]
  rcases List.mem_append.1 hs with hs | hs
  · exact hg s hs
  · simp at hs
    subst hs
    exact ⟨fun _ h => absurd h hn, fun _ => hn⟩
theorem Good.dflt {p q r : PS} {x : Xp} (h : TookS p q 1 dflt) (k : TookE q r x) (hk : x.k = 1) (hl : x.loc = dflt) (hb : r.bad < 0) (hg : Good p) : Good r := by
  obtain ⟨a, b⟩ := k.mem hb
  obtain ⟨c, d, e, f⟩ := h.2 (k.1.nb hb)
  intro s hs
  rw [a, f] at hs
  rcases List.mem_append.1 hs with hs | hs
  · refine ⟨fun h1 h2 => ?_, (hg s hs).2⟩
    obtain ⟨y, h3, h4⟩ := (hg s hs).1 h1 h2
    rw [← c, ← d] at h3
    exact ⟨y, b y (.inl h3), h4⟩
  · simp at hs
    subst hs
    exact ⟨fun _ _ => ⟨x, b x (.inr rfl), hk, hl⟩, fun h => by cases h⟩
structure At2 (B : Nat) (p : PS) (S0 : St) (q : PS) (S : St) : Prop where
  bx : Bx S0 S
  pf : PF B q
  pr : PR S q
  mv : Mv p q
theorem At.two {B : Nat} {p q : PS} {S0 S : St} (h : At B p S0 1 q S) : At2 B p S0 q S := ⟨h.bx, h.pf, h.pr, .of_k1 ⟨h.g0, fun hb => by have := h.on hb; omega⟩⟩
theorem At2.pre {B : Nat} {p q : PS} {S0 S : St} (h : At2 B p S0 q S) : pre B q S := ⟨h.pf, h.pr⟩
theorem At2.ha {B : Nat} {p q : PS} {S0 S : St} (hp : PF B p) (h : At2 B p S0 q S) : q.bad < 0 → 1 ≤ q.at_ := fun hb => by
  have := (h.mv.2 hb).1
  have := hp.at0
  omega
theorem At2.done {B : Nat} {p q : PS} {S0 S : St} (h : At2 B p S0 q S) : Bx S0 S ∧ M B (Mv p) q.av S := ⟨h.bx, q, rfl, h.pf, h.pr, h.mv⟩
theorem At2.exp {B : Nat} {p q r : PS} {S0 S S2 : St} {x : Xp} (h : At2 B p S0 q S) (b : Bx S S2) (f : PF B r) (pr : PR S2 r) (k : TookE q r x) : At2 B p S0 r S2 :=
  ⟨h.bx.trans b, f, pr, h.mv.1.trans k.1, fun hb => by
    have hq := k.1.nb hb
    have := h.mv.2 hq
    have := k.1.at_
    exact ⟨by omega, fun hg => Good.exp k hb ((h.mv.2 hq).2 hg)⟩⟩
theorem TookN.two {B : Nat} {p q r : PS} {S0 S S2 : St} {k : Int} {n : ByteArray} (h : At B p S0 1 q S) (b : Bx S S2) (f : PF B r) (pr : PR S2 r) (x : TookN q r k n) : At2 B p S0 r S2 :=
  ⟨h.bx.trans b, f, pr, h.g0.toG.trans x.1.1, fun hb => by
    have hq := x.1.1.nb hb
    have := h.on hq
    have := x.2 hb
    exact ⟨by omega, fun hg => (Good.stmt x.1 hb this.1.ne ((Mv.of_k1 ⟨h.g0, fun hb => by have := h.on hb; omega⟩).2 hq |>.2 hg))⟩⟩
section
variable {G : AL → Int → Int → Bool → AL → AL → AL → AL → AL → AL → Int → Int → St → Prop}
variable {S S0 : St} {L : Lo} {B : Nat} {p q : PS} {x : Xp}
theorem stE (hp : PF B p) (hA : At2 B p S0 q S)
    (k : ∀ q S1, At2 B p S0 q S1 → G (.sl q.tt q.toks.length (tkCells q.toks)) q.at_ q.en q.sc q.xr q.xi q.xe q.xs q.xx q.xl q.bad q.deep S1) :
    ∃ R, (realHk Tryz.prog w0 (tabOf Tryz.prog)).1 109 [q.av, .agg [.int .i64 x.k, .str x.name, .str x.loc, .str x.spec]] S L R ∧ ∀ (x : AL) (n n_1 : Int) (b : Bool) (x_1 x_2 x_3 x_4 x_5 x_6 : AL) (n_2 n_3 : Int) (S1 : St), R (AV.agg [x, AL.int IntKind.i64 n, AL.int IntKind.i64 n_1, AL.bool b, x_1, x_2, x_3, x_4, x_5, x_6, AL.int IntKind.i64 n_2, AL.int IntKind.i64 n_3]) S1 → G x n n_1 b x_1 x_2 x_3 x_4 x_5 x_6 n_2 n_3 S1 :=
  stP (l4Exp_c B q x (hA.ha hp)) hA.pre fun q2 S1 b f r y => k q2 S1 (hA.exp b f r y)
end
def iExp0 (B : Nat) (p : PS) (S0 : St) (x : AL) (xs : List Xp) (qa : PS) : Nat → KE := fun m env S' L => ∃ (q : PS) (i : Int), env = [(6, .v (int i)), (4, .v (.one x)), (3, .loc 2 0), (2, .loc 1 0), (1, .loc 0 0)] ∧
  L = [(90, q.cs), (90, nlc), (90, qa.cs)] ∧ At2 B p S0 q S' ∧ 0 ≤ i ∧ i ≤ xs.length ∧ (m : Int) = xs.length - i
def iExp1 (B : Nat) (p : PS) (S0 : St) (s : ByteArray) (x : AL) (xs : List Xp) (qa qb : PS) : Nat → KE := fun m env S' L => ∃ (q : PS) (i : Int), env = [(9, .v (int i)), (8, .v (str s)), (4, .v (.one x)), (2, .loc 1 0), (1, .loc 0 0)] ∧
  L = [(90, q.cs), (90, nlc), (90, qa.cs), (90, qb.cs)] ∧ At2 B p S0 q S' ∧ 0 ≤ i ∧ i ≤ xs.length ∧ (m : Int) = xs.length - i
theorem l4Export_c (B : Nat) (p : PS) : CONP w0 77 [p.av] (pre B p) (M B (Mv p)) := by
  refine ConP.of_gen (plans := pl77) hT hmo (nov := true) pre_loc M_loc (M_sh ⟨Tryz.f77, by kernel_rfl, fun q => by kernel_rfl⟩) (fun S hp => ?_)
  rw [v77]
  have hf := hp.1
  refine ⟨rfl, st1 (l4Word_c B p hf _) (At.start hp) (Int.le_refl 0) fun q1 S1 h1 => stIs h1 _ _ fun b S2 h1 _ => ⟨fun _ => ?_, fun _ => stIs h1 _ _ fun b2 S3 h1 _ => ⟨fun _ => ?_, fun _ => stIs h1 _ _ fun b2 S4 h1 _ => ⟨fun _ => ?_, fun _ => stIs h1 _ _ fun b2 S5 h1 _ => ⟨fun _ => ?_, fun _ => stIs h1 _ _ fun b2 S6 h1 _ => ⟨fun _ => ?_, fun _ => ?_⟩⟩⟩⟩⟩⟩
  · refine stL h1 (by omega) true fun qa x b xs S4 h2 hv => ⟨fun _ => stIs h2 _ _ fun b2 S5 h2 _ => ⟨fun _ => ?_, fun _ => ?_⟩, fun _ => ?_⟩
    · refine st1 (l4Sign_c B qa h2.pf _) h2 (by omega) fun q5 S8 h5 => ?_
      refine ⟨[6, 4, 3, 2, 1], iExp0 B p S x xs qa, xs.length, ⟨q5, 0, rfl, rfl, h5.two, by omega, by omega, by omega⟩, ?_⟩
      rintro m env S8 L1 ⟨q, i, rfl, rfl, hA, i0, i1, hm⟩
      refine WSem.of hT hmo (nov := true) (plans := pl77) (f := 1000) ?_
      rw [b77_0]
      refine ⟨_, hv.1, fun hlt => ?_, fun hlt => ?_⟩
      · have hlt := of_decide_eq_true hlt
        obtain ⟨tk, hx⟩ := hv.2.1 (by omega)
        obtain ⟨u, _, g1, g2⟩ := xp_get xs i i0 hlt
        refine ⟨rfl, _, _, _, hx, i0, hlt, _, _, _, hx, i0, hlt, ?_⟩
        have hlen := hv.2.2.1
        repeat' first
          | exact True.intro
          | exact stE (B := B) (x := ⟨1, u.name, u.loc, ⟨⟨[]⟩⟩⟩) hf hA fun q2 S2 hA2 => ⟨⟨by unfold in64; omega, loopK.again (L' := [(90, q2.cs), (90, nlc), (90, qa.cs)]) (m' := m - 1) ⟨(by decide : (2 : Nat) < 3), (by decide : (1 : Nat) < 3), (by decide : (0 : Nat) < 3), trivial⟩ rfl (by omega) ⟨q2, i + 1, rfl, rfl, hA2, by omega, by omega, by omega⟩⟩, trivial⟩
          | exact ⟨_, rfl, g1⟩
          | exact ⟨_, rfl, g2⟩
          | (intro s1 hs; first | (rw [g1] at hs; cases hs; done) | (rw [g2] at hs; cases hs; done) | (rw [g1] at hs; cases hs) | (rw [g2] at hs; cases hs))
          | apply And.intro
      · refine loopK.exit (L' := [(90, q.cs), (90, nlc), (90, qa.cs)]) ⟨(by decide : (2 : Nat) < 3), (by decide : (1 : Nat) < 3), (by decide : (0 : Nat) < 3), trivial⟩ rfl (kont.of hT hmo (nov := true) (plans := pl77) (f := 1000) ?_)
        rw [x77_0]
        exact ⟨rfl, hA.done⟩
    · refine st1 (l4Word_c B qa h2.pf _) h2 (by omega) fun q3 S6 h3 => stN (l4Spec_c B q3) h3 (by omega) fun qb s S7 h4 _ => st1 (l4Sign_c B qb h4.pf _) h4 (by omega) fun q5 S8 h5 => ?_
      refine ⟨[9, 8, 4, 2, 1], iExp1 B p S s x xs qa qb, xs.length, ⟨q5, 0, rfl, rfl, h5.two, by omega, by omega, by omega⟩, ?_⟩
      rintro m env S8 L1 ⟨q, i, rfl, rfl, hA, i0, i1, hm⟩
      refine WSem.of hT hmo (nov := true) (plans := pl77) (f := 1000) ?_
      rw [b77_1]
      refine ⟨_, hv.1, fun hlt => ?_, fun hlt => ?_⟩
      · have hlt := of_decide_eq_true hlt
        obtain ⟨tk, hx⟩ := hv.2.1 (by omega)
        obtain ⟨u, _, g1, g2⟩ := xp_get xs i i0 hlt
        refine ⟨rfl, _, _, _, hx, i0, hlt, _, _, _, hx, i0, hlt, ?_⟩
        have hlen := hv.2.2.1
        repeat' first
          | exact True.intro
          | exact stE (B := B) (x := ⟨2, u.name, u.loc, s⟩) hf hA fun q2 S2 hA2 => ⟨⟨by unfold in64; omega, loopK.again (L' := [(90, q2.cs), (90, nlc), (90, qa.cs), (90, qb.cs)]) (m' := m - 1) ⟨(by decide : (1 : Nat) < 4), (by decide : (0 : Nat) < 4), trivial⟩ rfl (by omega) ⟨q2, i + 1, rfl, rfl, hA2, by omega, by omega, by omega⟩⟩, trivial⟩
          | exact ⟨_, rfl, g1⟩
          | exact ⟨_, rfl, g2⟩
          | (intro s1 hs; first | (rw [g1] at hs; cases hs; done) | (rw [g2] at hs; cases hs; done) | (rw [g1] at hs; cases hs) | (rw [g2] at hs; cases hs))
          | apply And.intro
      · refine loopK.exit (L' := [(90, q.cs), (90, nlc), (90, qa.cs), (90, qb.cs)]) ⟨(by decide : (1 : Nat) < 4), (by decide : (0 : Nat) < 4), trivial⟩ rfl (kont.of hT hmo (nov := true) (plans := pl77) (f := 1000) ?_)
        rw [x77_1]
        exact ⟨rfl, hA.done⟩
    · refine st1 (l4Word_c B qa h2.pf _) h2 (by omega) fun q3 S6 h3 => stN (l4Spec_c B q3) h3 (by omega) fun qb s S7 h4 _ => st1 (l4Sign_c B qb h4.pf _) h4 (by omega) fun q5 S8 h5 => ?_
      refine ⟨[9, 8, 4, 2, 1], iExp1 B p S s x xs qa qb, xs.length, ⟨q5, 0, rfl, rfl, h5.two, by omega, by omega, by omega⟩, ?_⟩
      rintro m env S8 L1 ⟨q, i, rfl, rfl, hA, i0, i1, hm⟩
      refine WSem.of hT hmo (nov := true) (plans := pl77) (f := 1000) ?_
      rw [b77_1]
      refine ⟨_, hv.1, fun hlt => ?_, fun hlt => ?_⟩
      · have hlt := of_decide_eq_true hlt
        obtain ⟨tk, hx⟩ := hv.2.1 (by omega)
        obtain ⟨u, _, g1, g2⟩ := xp_get xs i i0 hlt
        refine ⟨rfl, _, _, _, hx, i0, hlt, _, _, _, hx, i0, hlt, ?_⟩
        have hlen := hv.2.2.1
        repeat' first
          | exact True.intro
          | exact stE (B := B) (x := ⟨2, u.name, u.loc, s⟩) hf hA fun q2 S2 hA2 => ⟨⟨by unfold in64; omega, loopK.again (L' := [(90, q2.cs), (90, nlc), (90, qa.cs), (90, qb.cs)]) (m' := m - 1) ⟨(by decide : (1 : Nat) < 4), (by decide : (0 : Nat) < 4), trivial⟩ rfl (by omega) ⟨q2, i + 1, rfl, rfl, hA2, by omega, by omega, by omega⟩⟩, trivial⟩
          | exact ⟨_, rfl, g1⟩
          | exact ⟨_, rfl, g2⟩
          | (intro s1 hs; first | (rw [g1] at hs; cases hs; done) | (rw [g2] at hs; cases hs; done) | (rw [g1] at hs; cases hs) | (rw [g2] at hs; cases hs))
          | apply And.intro
      · refine loopK.exit (L' := [(90, q.cs), (90, nlc), (90, qa.cs), (90, qb.cs)]) ⟨(by decide : (1 : Nat) < 4), (by decide : (0 : Nat) < 4), trivial⟩ rfl (kont.of hT hmo (nov := true) (plans := pl77) (f := 1000) ?_)
        rw [x77_1]
        exact ⟨rfl, hA.done⟩
  · exact st1 (l4Sign_c B q1 h1.pf _) h1 (by omega) fun q2 S4 h2 => st1 (l4Word_c B q2 h2.pf _) h2 (by omega) fun q3 S5 h3 => stN (l4Spec_c B q3) h3 (by omega) fun q4 s S6 h4 _ => st1 (l4Sign_c B q4 h4.pf _) h4 (by omega) fun q5 S7 h5 => stE (x := ⟨3, _, _, s⟩) hf h5.two fun q8 S10 h8 => ⟨rfl, h8.done⟩
  · refine st1 (l4Word_c B q1 h1.pf _) h1 (by omega) fun q2 S4 h2 => st1 (l4Sum_c B q2 h2.pf) h2 (by omega) fun q3 S5 h3 => st1 (l4Sign_c B q3 h3.pf _) h3 (by omega) fun q4 S6 h4 => stP (l4Stmt_c B q4 1 dflt (h4.ha hf) (Nat.le_add_left 8 B)) h4.pre fun q5 S7 b5 f5 r5 x5 => stP (l4Exp_c B q5 ⟨1, _, dflt, _⟩ fun hb => by have := h4.ha hf (x5.1.nb hb); have := x5.1.at_; omega) ⟨f5, r5⟩ fun q6 S8 b6 f6 r6 x6 => ⟨rfl, (h4.bx.trans b5).trans b6, q6, rfl, f6, r6, (h4.g0.toG.trans x5.1).trans x6.1, fun hb => ?_⟩
    have hb5 := x6.1.nb hb
    have hb4 := x5.1.nb hb5
    have e1 := h4.on hb4
    have e2 := x5.1.at_
    have e3 := x6.1.at_
    exact ⟨by omega, fun hg => Good.dflt x5 x6 rfl rfl hb ((h4.two.mv.2 hb4).2 hg)⟩
  · exact stP2 (l4Let_c B q1) h1.pre fun q2 n S7 b2 f2 r2 x2 => stE (x := ⟨1, n, n, _⟩) hf (x2.two h1 b2 f2 r2) fun q8 S10 h8 => ⟨rfl, h8.done⟩
  · exact stP2 (l4Fn_c B q1) h1.pre fun q2 n S7 b2 f2 r2 x2 => stE (x := ⟨1, n, n, _⟩) hf (x2.two h1 b2 f2 r2) fun q8 S10 h8 => ⟨rfl, h8.done⟩
  · exact st1 (l4Fail_c B q1 h1.pf) h1 (by omega) fun q2 S7 h2 => ⟨rfl, h2.two.done⟩
end Go.Proofs.YtkdickfiifpblaaGreatDoor.D
namespace Go.Proofs.YtkdickfiifpblaaGreatDoor.D
open Go Go.Den Go.Proofs
set_option maxRecDepth 100000
variable {w0 : World}
section
variable {G : AL → Int → Int → Bool → AL → AL → AL → AL → AL → AL → Int → Int → St → Prop}
variable {S S0 : St} {L : Lo} {B : Nat} {p q : PS}
theorem stS (hp : PF B p) (hA : At B p S0 1 q S) (kd : Int) (n : ByteArray) (hn : q.bad < 0 → n ≠ dflt) (hz : n.size ≤ B + 8)
    (k : ∀ q S1, At2 B p S0 q S1 → G (.sl q.tt q.toks.length (tkCells q.toks)) q.at_ q.en q.sc q.xr q.xi q.xe q.xs q.xx q.xl q.bad q.deep S1) :
    ∃ R, (realHk Tryz.prog w0 (tabOf Tryz.prog)).1 83 [q.av, int kd, str n] S L R ∧ ∀ (x : AL) (n n_1 : Int) (b : Bool) (x_1 x_2 x_3 x_4 x_5 x_6 : AL) (n_2 n_3 : Int) (S1 : St), R (AV.agg [x, AL.int IntKind.i64 n, AL.int IntKind.i64 n_1, AL.bool b, x_1, x_2, x_3, x_4, x_5, x_6, AL.int IntKind.i64 n_2, AL.int IntKind.i64 n_3]) S1 → G x n n_1 b x_1 x_2 x_3 x_4 x_5 x_6 n_2 n_3 S1 :=
  stP (l4Stmt_c B q kd n (hA.ha hp) hz) hA.pre fun q2 S1 b f r x => k q2 S1 ⟨hA.bx.trans b, f, r, hA.g0.toG.trans x.1, fun hb => by
    have hq := x.1.nb hb
    have e1 := hA.on hq
    have e2 := x.1.at_
    exact ⟨by omega, fun hg => Good.stmt x hb (hn hq) ((hA.two.mv.2 hq).2 hg)⟩⟩
end
theorem TookN.one {B : Nat} {p r : PS} {S0 S S2 : St} {k : Int} {n : ByteArray} (h : Bx S0 S) (b : Bx S S2) (f : PF B r) (pr : PR S2 r) (x : TookN p r k n) : At2 B p S0 r S2 :=
  ⟨h.trans b, f, pr, x.1.1, fun hb => ⟨(x.2 hb).2, fun hg => Good.stmt x.1 hb (x.2 hb).1.ne hg⟩⟩
theorem nil_ne : (⟨⟨[]⟩⟩ : ByteArray) ≠ dflt := by
  intro h
  have := congrArg ByteArray.size h
  exact absurd this (by decide)
theorem l4Item_c (B : Nat) (p : PS) : CONP w0 65 [p.av] (pre B p) (M B (Mv p)) := by
  refine ConP.of_gen (plans := np) hT hmo (nov := true) pre_loc M_loc (M_sh ⟨Tryz.f65, by kernel_rfl, fun q => by kernel_rfl⟩) (fun S hp => ?_)
  rw [v65]
  have hf := hp.1
  have hA := At.start hp
  refine ⟨rfl, ?_⟩
  repeat' first
    | exact stP (l4Import_c B p) (by assumption : At B p S 0 p _).pre fun q S2 b f r x => ⟨rfl, (by assumption : At B p S 0 p _).bx.trans b, q, rfl, f, r, .of_k1 x⟩
    | exact stP (l4Export_c B p) (by assumption : At B p S 0 p _).pre fun q S2 b f r x => ⟨rfl, (by assumption : At B p S 0 p _).bx.trans b, q, rfl, f, r, x⟩
    | exact stP2 (l4Let_c B p) (by assumption : At B p S 0 p _).pre fun q n S2 b f r x => ⟨rfl, (TookN.one (by assumption : At B p S 0 p _).bx b f r x).done⟩
    | exact stP2 (l4Fn_c B p) (by assumption : At B p S 0 p _).pre fun q n S2 b f r x => ⟨rfl, (TookN.one (by assumption : At B p S 0 p _).bx b f r x).done⟩
    | exact st1 (l4Word_c B p hf _) (by assumption : At B p S 0 p _) (Int.le_refl 0) fun q1 S1 h1 => st1 (l4Sign_c B q1 h1.pf _) h1 (by omega) fun q2 S2 h2 => st1 (l4Sum_c B q2 h2.pf) h2 (by omega) fun q3 S3 h3 => st1 (l4Sign_c B q3 h3.pf _) h3 (by omega) fun q4 S4 h4 => st1 (l4Sign_c B q4 h4.pf _) h4 (by omega) fun q5 S5 h5 => stS hf h5 _ _ (fun _ => nil_ne) (Nat.zero_le _) fun q6 S6 h6 => ⟨rfl, h6.done⟩
    | exact st1 (l4Word_c B p hf _) (by assumption : At B p S 0 p _) (Int.le_refl 0) fun q1 S1 h1 => st1 (l4Sum_c B q1 h1.pf) h1 (by omega) fun q3 S3 h3 => st1 (l4Sign_c B q3 h3.pf _) h3 (by omega) fun q4 S4 h4 => stS hf h4 _ _ (fun _ => nil_ne) (Nat.zero_le _) fun q6 S6 h6 => ⟨rfl, h6.done⟩
    | (refine stIs (by assumption) _ _ ?_; intro b S1 hA _)
    | exact stN (l4Name_c B p hf false) (by assumption : At B p S 0 p _) (Int.le_refl 0) fun q1 n S1 h1 hn => st1 (l4Sign_c B q1 h1.pf _) (At.start h1.pre) (by omega) fun q2 S2 h2 => st1 (l4Sum_c B q2 h2.pf) h2 (by omega) fun q3 S3 h3 => st1 (l4Sign_c B q3 h3.pf _) h3 (by omega) fun q4 S4 h4 => stS hf (h1.join h4) _ _ (fun hb => (hn.1 (h4.g0.nb hb)).ne) (Nat.le_trans hn.2 (Nat.le_add_right _ _)) fun q6 S6 h6 => ⟨rfl, h6.done⟩
    | refine And.intro (fun _ => ?_) (fun _ => ?_)
end Go.Proofs.YtkdickfiifpblaaGreatDoor.D
namespace Go.Proofs.YtkdickfiifpblaaGreatDoor.D
open Go Go.Den Go.Proofs
set_option maxRecDepth 100000
variable {w0 : World}
theorem _root_.Go.Den.Row.app {T : Tab} {S : St} {t e : TypeId} {d de : D} (hd : T.desc t = some d) (he : d.elem = some e) (hde : T.desc e = some de) (hz : de.zero.length = de.size) (h0 : de.size ≠ 0)
    {x y : AL} {n m : Nat} {xs ys : List AL} (h : Row S e de.size x n xs) (hy : ys.length = m * de.size) (hv : (y = .nilsl ∧ m = 0) ∨ ∃ tok, y = .sl tok m ys) (hm : n + m ≤ maxLen) (hb : (n + m) * de.bytes ≤ 140737488355328) :
    ∃ r S', dAppend2 T t x y S = some (r, S') ∧ Row S' e de.size r (n + m) (xs ++ ys) ∧ Bx S S' ∧ (∀ u z, S.tok u = some z → x.tk ≠ some u → S'.tok u = some z) ∧ (r = x ∨ ∃ k, r.tk = some k ∧ S.toks.length ≤ k) := by
  rcases Nat.eq_zero_or_pos m with rfl | hp
  · have hys : ys = [] := List.eq_nil_of_length_eq_zero (by omega)
    subst hys
    refine ⟨x, S, ?_, by rw [List.append_nil]; exact h, Bx.refl S, fun _ _ hu _ => hu, .inl rfl⟩
    obtain ⟨_, ⟨rfl, _⟩ | ⟨tk, rfl, _⟩⟩ := h <;> rcases hv with ⟨rfl, _⟩ | ⟨tok, rfl⟩ <;> simp [dAppend2, hd, he, hde]
  · obtain ⟨tok, rfl⟩ : ∃ tok, y = .sl tok m ys := by
      rcases hv with ⟨_, h⟩ | h
      · omega
      · exact h
    have e1 : dAppend2 T t x (.sl tok m ys) S = dAppend T t x (.sl tok m ys) S := by
      obtain ⟨m', rfl⟩ := Nat.exists_eq_succ_of_ne_zero (by omega : m ≠ 0)
      rfl
    rw [e1]
    have hno : ¬ (m = 0 ∨ de.size = 0 ∨ ys.length ≠ m * de.size ∨ de.zero.length ≠ de.size) := by
      rw [hy]
      omega
    obtain ⟨h1, ⟨rfl, rfl⟩ | ⟨tk, rfl, h2, hy2⟩⟩ := h
    · have hx : xs = [] := List.eq_nil_of_length_eq_zero (by omega)
      subst hx
      refine ⟨.sl (some S.toks.length) m ys, S.born (ys.length, e, de.size), ?_, ⟨by simp [hy], .inr ⟨_, by rw [Nat.zero_add]; rfl, tok_born _ _, born_yng _ _⟩⟩, (Ext.born S _).bx, fun u z hu _ => (TokLe.born S _).1 u z hu, .inr ⟨_, rfl, Nat.le_refl _⟩⟩
      unfold dAppend
      simp only [hd, he, hde, Option.bind_some, AL.cells]
      rw [if_neg hno, if_pos ⟨by omega, by rw [Nat.zero_add] at hb; exact hb⟩]
    · refine ⟨.sl (some S.toks.length) (n + m) (xs ++ ys), S.grow tk ((xs ++ ys).length, e, de.size), ?_, ⟨by rw [List.length_append, h1, hy, Nat.add_mul], .inr ⟨_, rfl, tok_grow _ _ _, grow_yng _ _ _ hy2⟩⟩, ⟨grow_boxes _ _ _, by rw [grow_len]; omega, fun u hu => grow_keep _ _ _ u hu⟩, fun u z hu hne => ?_, .inr ⟨_, rfl, Nat.le_refl _⟩⟩
      · unfold dAppend
        simp only [hd, he, hde, Option.bind_some, AL.cells]
        rw [if_neg hno, if_pos ⟨h2, h1, hm, hb⟩]
      · exact tok_grow_ne _ _ _ _ _ hu (fun e => hne (by rw [e]; rfl))
structure Md where
  xr : AL
  xi : AL
  xe : AL
  xs : AL
  xx : AL
  reqs : List ByteArray
  imps : List Im
  exps : List Xp
  stmts : List Sm
  exprs : List Er
abbrev Md.cs (m : Md) : List AL := [m.xr, m.xi, m.xe, m.xs, m.xx]
abbrev Md.av (m : Md) : AV := .agg m.cs
structure MF (B : Nat) (m : Md) : Prop where
  cr : m.reqs.length ≤ 41
  ci : m.imps.length ≤ 41
  ce : m.exps.length ≤ 41
  cs : m.stmts.length ≤ 81
  cx : m.exprs.length ≤ 301
  bi : ∀ x, x ∈ m.imps → x.loc.size ≤ B + 8
  bs : ∀ x, x ∈ m.stmts → x.name.size ≤ B + 8
  bx : ∀ x, x ∈ m.exprs → x.name.size ≤ B + 8
  good : ∀ s, s ∈ m.stmts → (s.k = 1 → s.name = dflt → ∃ x, x ∈ m.exps ∧ x.k = 1 ∧ x.loc = dflt) ∧ (s.k = 2 → s.name ≠ dflt)
structure MR (S : St) (m : Md) : Prop where
  rr : Row S 9 1 m.xr m.reqs.length (m.reqs.flatMap Rq)
  ri : Row S 48 3 m.xi m.imps.length (m.imps.flatMap Im.cells)
  re : Row S 72 4 m.xe m.exps.length (m.exps.flatMap Xp.cells)
  rs : Row S 46 3 m.xs m.stmts.length (m.stmts.flatMap Sm.cells)
  rx : Row S 59 6 m.xx m.exprs.length (m.exprs.flatMap Er.cells)
  ap : List.Pairwise Ap [m.xr, m.xi, m.xe, m.xs, m.xx]
theorem MR.toks {S S' : St} {m : Md} (ht : Same S S') (h : MR S m) : MR S' m := ⟨Row.toks ht h.rr, Row.toks ht h.ri, Row.toks ht h.re, Row.toks ht h.rs, Row.toks ht h.rx, h.ap⟩
def rMod (B : Nat) (v : AV) (S : St) : Prop := ∃ (m : Md) (n : Int), v = .tup [m.av, int n] ∧ MF B m ∧ m.reqs.length ≤ 40 ∧ m.imps.length ≤ 40 ∧ m.exps.length ≤ 40 ∧ m.stmts.length ≤ 80 ∧ m.exprs.length ≤ 300 ∧ MR S m
def md0 : Md := ⟨.nilsl, .nilsl, .nilsl, .nilsl, .nilsl, [], [], [], [], []⟩
theorem md0_f (B : Nat) : MF B md0 := ⟨by decide, by decide, by decide, by decide, by decide, fun x h => (List.not_mem_nil h).elim, fun x h => (List.not_mem_nil h).elim, fun x h => (List.not_mem_nil h).elim, fun x h => (List.not_mem_nil h).elim⟩
theorem md0_r (S : St) : MR S md0 := ⟨Row.nil _ _ _, Row.nil _ _ _, Row.nil _ _ _, Row.nil _ _ _, Row.nil _ _ _, by simp [md0, List.pairwise_cons, Ap, AL.tk]⟩
def iParse (B : Nat) (S0 : St) : Nat → KE := fun m env S' L => ∃ q : PS, env = [(8, .loc 1 0), (5, .v (int 0)), (4, .loc 0 0)] ∧ L = [(30, [.nilsl, .nilsl, .nilsl, .nilsl, .nilsl]), (90, q.cs)] ∧ Bx S0 S' ∧ PF B q ∧ PR S' q ∧ (q.bad < 0 → Good q) ∧ (q.bad < 0 → (m : Int) = q.toks.length - q.at_)
theorem Parse_c (s : ByteArray) (b : Bool) (hs : Small s) : CONP w0 39 [str s, bool b] (fun _ => True) (rMod s.size) := by
  refine ConP.of_gen (plans := pl39) hT hmo (nov := true) (fun _ _ _ _ => trivial) (fun v S S' h ⟨m, n, h1, h2, a, b, c, d, e, h3⟩ => ⟨m, n, h1, h2, a, b, c, d, e, h3.toks h⟩) (fun v S hv => ?_) (fun S _ => ?_)
  · obtain ⟨m, n, rfl, _, _, _, _, _, _, h⟩ := hv
    refine ⟨Tryz.f39, [m.av, int n], by kernel_rfl, rfl, ?_⟩
    obtain ⟨_, ⟨h1, _⟩ | ⟨_, h1, _⟩⟩ := h.rr <;> obtain ⟨_, ⟨h2, _⟩ | ⟨_, h2, _⟩⟩ := h.ri <;> obtain ⟨_, ⟨h3, _⟩ | ⟨_, h3, _⟩⟩ := h.re <;> obtain ⟨_, ⟨h4, _⟩ | ⟨_, h4, _⟩⟩ := h.rs <;> obtain ⟨_, ⟨h5, _⟩ | ⟨_, h5, _⟩⟩ := h.rx <;>
      (simp only [Md.av, Md.cs, h1, h2, h3, h4, h5]; kernel_rfl)
  rw [v39]
  refine ⟨rfl, _, (Lex_ok s b hs).use S _, ?_⟩
  rintro x n S1 ⟨hE, x', bad, toks, hv, hb, ⟨tok, hx⟩, hl, ht⟩
  cases hv
  subst hx
  have empty : ∀ S2 k, Bx S S2 → Bx S S2 ∧ rMod s.size (.tup [md0.av, int k]) S2 := fun S2 k h => ⟨h, md0, k, rfl, md0_f _, by decide, by decide, by decide, by decide, by decide, md0_r S2⟩
  refine ⟨fun _ => ⟨rfl, empty S1 n hE.bx⟩, fun _ => ?_⟩
  let p0 : PS := ⟨toks, tok, 0, s.size, b, .nilsl, .nilsl, .nilsl, .nilsl, .nilsl, .nilsl, [], [], [], [], [], [], -1, 0⟩
  have hf0 : PF s.size p0 := ⟨ht, hl, Int.le_refl _, by show (0 : Int) ≤ (toks.length : Int); omega, by show (0 : Int) ≤ (s.size : Int); omega, Int.le_refl _, (by decide : (-1 : Int) ≤ -1), (by decide : (0 : Int) ≤ 0), (by decide : (0 : Int) ≤ 20), fun x h => (List.not_mem_nil h).elim, fun x h => (List.not_mem_nil h).elim, fun x h => (List.not_mem_nil h).elim⟩
  have hr0 : PR S1 p0 := ⟨Row.nil _ _ _, Row.nil _ _ _, Row.nil _ _ _, Row.nil _ _ _, Row.nil _ _ _, Row.nil _ _ _, Nat.zero_le _, Nat.zero_le _, Nat.zero_le _, Nat.zero_le _, Nat.zero_le _, by simp [p0, List.pairwise_cons, Ap, AL.tk]⟩
  refine ⟨[8, 5, 4], iParse s.size S, toks.length, ⟨p0, rfl, rfl, hE.bx, hf0, hr0, fun _ s hs => (List.not_mem_nil hs).elim, fun _ => by show (toks.length : Int) = toks.length - 0; omega⟩, ?_⟩
  rintro m env S2 L2 ⟨q, rfl, rfl, hB, hf, hr, hg, hm⟩
  refine WSem.of hT hmo (nov := true) (plans := pl39) (f := 1000) ?_
  rw [b39_0]
  have fin : (q.bad < 0 → Good q) → loopK (iParse s.size S) 2 m (KT w0 53 [Kn.blk 0, Kn.seq (CO 39 [1, 1, 1, 1, 1])] (WE Tryz.f39 S.boxes.length (fun v S' => Bx S S' ∧ rMod s.size v S'))) (.exit 0) [(8, .loc 1 0), (5, .v (int 0)), (4, .loc 0 0)] S2 [(30, [.nilsl, .nilsl, .nilsl, .nilsl, .nilsl]), (90, q.cs)] := by
    intro hg
    refine loopK.exit (L' := [(30, [.nilsl, .nilsl, .nilsl, .nilsl, .nilsl]), (90, q.cs)]) ⟨(by decide : (1 : Nat) < 2), (by decide : (0 : Nat) < 2), trivial⟩ rfl (kont.of hT hmo (nov := true) (plans := pl39) (f := 1000) ?_)
    rw [x39_0]
    refine ⟨fun _ => ⟨rfl, ⟨⟨rfl, empty S2 q.bad hB⟩, trivial⟩, ⟨⟨rfl, empty S2 q.bad hB⟩, trivial⟩, trivial⟩, fun hbad => ⟨rfl, ?_⟩⟩
    have hbad := of_decide_eq_false hbad
    obtain ⟨r, S3, h1, h2, h3, h4, h5⟩ := hr.re.app (t := 26) T26 rfl T72 rfl (by decide) hr.rl.1 (by
      obtain ⟨_, ⟨a, b⟩ | ⟨tk, a, _⟩⟩ := hr.rl
      · exact .inl ⟨a, b⟩
      · exact .inr ⟨_, a⟩) (by unfold maxLen; have := hr.ce; omega) (by show (q.exps.length + q.last.length) * 56 ≤ _; have := hr.ce; omega)
    obtain ⟨⟨a1, a2, a3, a4, a5⟩, ⟨b1, b2, b3, b4⟩, ⟨c1, c2, c3⟩, ⟨d1, d2⟩, e1⟩ := ap6.1 hr.ap
    have apr : ∀ {e : TypeId} {sz n : Nat} {y : AL} {ys : List AL}, Row S2 e sz y n ys → Ap y q.xe → Ap y r := fun hy ha => by
      rcases h5 with rfl | h5
      · exact ha
      · exact Ap.new hy h5
    refine ⟨r, S3, h1, rfl, hB.trans h3, ⟨q.xr, q.xi, r, q.xs, q.xx, q.reqs, q.imps, q.exps ++ q.last, q.stmts, q.exprs⟩, -1, rfl, ⟨by have := hr.cr; show q.reqs.length ≤ 41; omega, by have := hr.ci; show q.imps.length ≤ 41; omega, by have := hr.ce; show (q.exps ++ q.last).length ≤ 41; simp; omega, by have := hr.cs; show q.stmts.length ≤ 81; omega, by have := hr.cx; show q.exprs.length ≤ 301; omega, hf.bi, hf.bs, hf.bx, hg (by omega)⟩,
      hr.cr, hr.ci, by have := hr.ce; show (q.exps ++ q.last).length ≤ 40; simp; omega, hr.cs, hr.cx, ⟨hr.rr.other a2 h4 h3.yng, hr.ri.other b1 h4 h3.yng, ?_, hr.rs.other c1.symm h4 h3.yng, hr.rx.other c2.symm h4 h3.yng, ?_⟩⟩
    · show Row S3 72 4 r (q.exps ++ q.last).length ((q.exps ++ q.last).flatMap Xp.cells)
      rw [List.length_append, List.flatMap_append]
      exact h2
    · show List.Pairwise Ap [q.xr, q.xi, r, q.xs, q.xx]
      simp only [List.pairwise_cons, List.mem_cons, List.not_mem_nil, forall_eq_or_imp, or_false, forall_eq, List.Pairwise.nil, and_true, false_imp_iff, implies_true]
      exact ⟨⟨a1, apr hr.rr a2, a3, a4⟩, ⟨apr hr.ri b1, b2, b3⟩, ⟨(apr hr.rs c1.symm).symm, (apr hr.rx c2.symm).symm⟩, d1⟩
  refine ⟨fun hb => ⟨_, rfl, fun hlt => ?_, fun _ => fin hg⟩, fun _ => fin hg⟩
  have hb := of_decide_eq_true hb
  have hlt := of_decide_eq_true hlt
  refine stP (l4Item_c s.size q) ⟨hf, hr⟩ fun q2 S3 hB2 hf2 hr2 hmv => ?_
  have hm := hm hb
  have h1 := hf2.at1
  have htk := hmv.1.toks
  refine loopK.again (L' := [(30, [.nilsl, .nilsl, .nilsl, .nilsl, .nilsl]), (90, q2.cs)]) (m' := if q2.bad < 0 then (q2.toks.length - q2.at_).toNat else 0) ⟨(by decide : (1 : Nat) < 2), (by decide : (0 : Nat) < 2), trivial⟩ rfl ?_ ⟨q2, rfl, rfl, hB.trans hB2, hf2, hr2, fun hb2 => (hmv.2 hb2).2 (hg hb), fun hb2 => by rw [if_pos hb2]; omega⟩
  split
  · next hb2 =>
    have := (hmv.2 hb2).1
    rw [htk] at h1 ⊢
    omega
  · omega
end Go.Proofs.YtkdickfiifpblaaGreatDoor.D
namespace Go.Proofs.YtkdickfiifpblaaGreatDoor.D
open Go Go.Den
def p12_12 : Plan := .take 0 (.take 2 (.all [(1, .take 3 (.take 4 (.all [(5, .take 6 (.take 7 (.take 9 (.take 11 (.all [(8, .all [(10, .take 12 (.take 13 (.all [(14, .all [(15, .take 16 (.take 17 (.done)))])])))]), (10, .take 12 (.take 13 (.all [(8, .all [(14, .all [(15, .take 16 (.take 17 (.done)))])]), (14, .all [(8, .all [(15, .take 16 (.take 17 (.done)))])])])))])))))])))]))
def pl12 : Nat → Plan
  | 12 => p12_12
  | _ => .done
def p10_5 : Plan := .take 0 (.take 1 (.take 5 (.all [(2, .all [(3, .take 4 (.all [(6, .take 7 (.take 8 (.take 9 (.take 10 (.done)))))])), (6, .all [(3, .take 4 (.take 7 (.take 8 (.take 9 (.take 10 (.done))))))])]), (6, .all [(2, .all [(3, .take 4 (.take 7 (.take 8 (.take 9 (.take 10 (.done))))))])])])))
def pl10 : Nat → Plan
  | 5 => p10_5
  | _ => .done
def p17_1 : Plan := .all [(0, .all [(1, .all [(2, .all [(3, .all [(4, .all [(5, .all [(6, .all [(7, .all [(8, .take 9 (.done))])])])])]), (4, .all [(3, .all [(5, .all [(6, .all [(7, .all [(8, .take 9 (.done))])])])])])]), (4, .all [(2, .all [(3, .all [(5, .all [(6, .all [(7, .all [(8, .take 9 (.done))])])])])])])]), (2, .all [(1, .all [(3, .all [(4, .all [(5, .all [(6, .all [(7, .all [(8, .take 9 (.done))])])])])]), (4, .all [(3, .all [(5, .all [(6, .all [(7, .all [(8, .take 9 (.done))])])])])])]), (4, .all [(1, .all [(3, .all [(5, .all [(6, .all [(7, .all [(8, .take 9 (.done))])])])])])])]), (4, .all [(1, .all [(2, .all [(3, .all [(5, .all [(6, .all [(7, .all [(8, .take 9 (.done))])])])])])]), (2, .all [(1, .all [(3, .all [(5, .all [(6, .all [(7, .all [(8, .take 9 (.done))])])])])])])])]), (2, .all [(0, .all [(1, .all [(3, .all [(4, .all [(5, .all [(6, .all [(7, .all [(8, .take 9 (.done))])])])])]), (4, .all [(3, .all [(5, .all [(6, .all [(7, .all [(8, .take 9 (.done))])])])])])]), (4, .all [(1, .all [(3, .all [(5, .all [(6, .all [(7, .all [(8, .take 9 (.done))])])])])])])]), (4, .all [(0, .all [(1, .all [(3, .all [(5, .all [(6, .all [(7, .all [(8, .take 9 (.done))])])])])])])])]), (4, .all [(0, .all [(1, .all [(2, .all [(3, .all [(5, .all [(6, .all [(7, .all [(8, .take 9 (.done))])])])])])]), (2, .all [(1, .all [(3, .all [(5, .all [(6, .all [(7, .all [(8, .take 9 (.done))])])])])])])]), (2, .all [(0, .all [(1, .all [(3, .all [(5, .all [(6, .all [(7, .all [(8, .take 9 (.done))])])])])])])])])]
def pl17 : Nat → Plan
  | 1 => p17_1
  | _ => .done
def cfDel : Cf := ⟨true, fun _ => none, fun d => bif Nat.beq d 33 || Nat.beq d 38 || Nat.beq d 41 then 1 else 0⟩
def cfGrow : Cf := ⟨true, fun _ => none, fun d => bif Nat.beq d 20 then 2 else bif Nat.beq d 22 || Nat.beq d 25 then 1 else 0⟩
def cf17 : Cf := ⟨true, fun d => bif Nat.beq d 11 then some ⟨[], []⟩ else none, fun _ => 0⟩
def cf21 : Cf := ⟨true, fun d => bif Nat.beq d 9 || Nat.beq d 10 then some ⟨[], []⟩ else none, fun _ => 0⟩
def cf25 : Cf := ⟨true, fun d => bif Nat.beq d 29 then some ⟨[], []⟩ else none, fun _ => 0⟩
def cf6 : Cf := ⟨true, fun d => bif Nat.beq d 65 then some ⟨[1, 4, 5], []⟩ else bif Nat.beq d 72 then some ⟨[68, 70, 5], []⟩ else bif Nat.beq d 75 then some ⟨[68, 70, 73], []⟩ else none, fun _ => 0⟩
def cf7 : Cf := ⟨true, fun d => bif Nat.beq d 12 then some ⟨[2, 3], [(2, 1)]⟩ else none, fun _ => 0⟩
def cf14 : Cf := ⟨true, fun _ => none, fun d => bif Nat.beq d 35 then 1 else 0⟩
def p14_5b : Plan := .take 0 (.take 2 (.take 3 (.take 7 (.all [(1, .all [(4, .take 5 (.all [(6, .all [(8, .all [(9, .all [(10, .all [(11, .done)])])])])]))]), (4, .take 5 (.all [(1, .all [(6, .all [(8, .all [(9, .all [(10, .all [(11, .done)])])])])]), (6, .all [(1, .all [(8, .all [(9, .all [(10, .all [(11, .done)])])])]), (8, .all [(1, .all [(9, .all [(10, .all [(11, .done)])])])])])]))]))))
def pl14b : Nat → Plan
  | 7 => p14_7
  | 9 => p14_9
  | 11 => p14_11
  | 13 => p14_13
  | 15 => p14_15
  | 5 => p14_5b
  | _ => .done
end Go.Proofs.YtkdickfiifpblaaGreatDoor.D
namespace Go.Proofs.YtkdickfiifpblaaGreatDoor.D
open Go Go.Den Go.Proofs
theorem v31 : ∀ (hk : Hk) (plans : Nat->Plan) (x0 : AL) (s1 : ByteArray) (S : St) (Q : AV->St->Prop),wFn (Cf.of true) hk Tryz.prog (tabOf Tryz.prog) plans false 31 [.one x0,.one (.str s1)] S Q=(true=true/\hk.2 18 (codeOf Tryz.prog 31 [1,0,1,0,0]) [.blk 0,.seq (codeOf Tryz.prog 31 [1,1])] (wEnd (tabOf Tryz.prog) Tryz.f31 false S.boxes.length Q) [(5,.v (.one (.i 0))),(4,.kb
 false),(0,.v (.one x0)),(1,.v (.one (.str s1)))] S
 [])
 := by intros; kernel_rfl
theorem b31_0 : ∀ (hk : Hk) (plans : Nat->Plan) (x0 : AL) (s1 : ByteArray) (n5 : Int) (b4 : Bool) (S : St) (K : QW),wCode (Cf.of true) hk Tryz.prog (tabOf Tryz.prog) 18 plans 1000 (codeOf Tryz.prog 31 [1,0,1,0,0]) [] (fun e env S L => K e (restr [5,4,0,1] env) S L) [(5,.v (.one (.i n5))),(4,.v (.one (.bool b4))),(0,.v (.one x0)),(1,.v (.one (.str s1)))] S []=∃ n,x0.len?=some
 n/\(decide (n5 < (↑n : Int))=true->∃ tok n xs,x0=.sl tok n xs/\0<=n5/\n5 < (↑n : Int)/\(∃ x,likeCells [.str k_] [x]=true/\(List.drop (n5.toNat * 1) xs)[0]?=some x)/\∀ (s : ByteArray),(List.drop (n5.toNat * 1) xs)[0]?=some (.str s)->(decide (s=s1)=true->K .ret [(5,.v (.one (.i n5))),(4,.v (.one (.bool true))),(0,.v (.one x0)),(1,.v (.one (.str s1)))] S [])/\(decide
 (s=s1)=false->in64 (n5 + 1)/\K .normal [(5,.v (.one (.i (n5 + 1)))),(4,.v (.one (.bool b4))),(0,.v (.one x0)),(1,.v (.one (.str s1)))] S []))/\(decide (n5 < (↑n : Int))=false->K (.exit 0) [(5,.v (.one (.i n5))),(4,.v (.one (.bool b4))),(0,.v (.one x0)),(1,.v (.one (.str s1)))] S
 [])
 := by intros; kernel_rfl
theorem x31_0 : ∀ (hk : Hk) (plans : Nat->Plan) (x0 : AL) (s1 : ByteArray) (S : St) (Q : AV->St->Prop) (n5 : Int) (b4 : Bool) (S_1 : St),wCode.wEx (Cf.of true) hk Tryz.prog (tabOf Tryz.prog) 18 plans 1000 (.exit 0) [.blk 0,.seq (codeOf Tryz.prog 31 [1,1])] (wEnd (tabOf Tryz.prog) Tryz.f31 false S.boxes.length Q) [(5,.v (.one (.i n5))),(4,.v (.one (.bool b4))),(0,.v (.one
 x0)),(1,.v (.one (.str s1)))] S_1 []=(true=true/\Q (.one (.bool false))
 S_1)
 := by intros; kernel_rfl
theorem v63 : ∀ (hk : Hk) (plans : Nat->Plan) (n0 : Int) (S : St) (Q : AV->St->Prop),wFn (Cf.of true) hk Tryz.prog (tabOf Tryz.prog) plans false 63 [.one (.i n0)] S Q=(true=true/\((n0 == 2)=true->true=true/\Q (.one (.bool true)) S)/\((n0 == 2)=false->((n0 == 3)=true->true=true/\Q (.one (.bool true)) S)/\((n0 == 3)=false->((n0 == 4)=true->true=true/\Q (.one (.bool true))
 S)/\((n0 == 4)=false->true=true/\Q (.one (.bool (n0 == 5)))
 S))))
 := by intros; kernel_rfl
theorem v30 : ∀ (hk : Hk) (plans : Nat->Plan) (x0_0 x0_1 x0_2 x0_3 x0_4 : AL) (S : St) (Q : AV->St->Prop),wFn (Cf.of true) hk Tryz.prog (tabOf Tryz.prog) plans false 30 [.agg [x0_0,x0_1,x0_2,x0_3,x0_4]] S Q=(true=true/\hk.2 38 (codeOf Tryz.prog 30 [1,1,0,1,0,0]) [.blk 0,.seq (codeOf Tryz.prog 30 [1,1,1])] (wEnd (tabOf Tryz.prog) Tryz.f30 false S.boxes.length Q) [(4,.v (.one (.i
 0))),(3,.v (.one (.sl (some S.toks.length) 0 []))),(6,.v (.one (.sl (some S.toks.length) 0 []))),(2,.v (.one .nilsl)),(1,.loc 0 0),(0,.v (.agg [x0_0,x0_1,x0_2,x0_3,x0_4]))] (S.born (0,9,1))
 [(30,[x0_0,x0_1,x0_2,x0_3,x0_4])])
 := by intros; kernel_rfl
theorem b30_0 : ∀ (hk : Hk) (plans : Nat->Plan) (n4 : Int) (x3 xL0_0 xL0_1 xL0_2 xL0_3 xL0_4 : AL) (S : St) (K : QW),wCode (Cf.of true) hk Tryz.prog (tabOf Tryz.prog) 38 plans 1000 (codeOf Tryz.prog 30 [1,1,0,1,0,0]) [] (fun e env S L => K e (restr [4,3,2,1] env) S L) [(4,.v (.one (.i n4))),(3,.v (.one x3)),(2,.v (.one .nilsl)),(1,.loc 0 0)] S
 [(30,[xL0_0,xL0_1,xL0_2,xL0_3,xL0_4])]=∃ n,xL0_3.len?=some n/\(decide (n4 < (↑n : Int))=true->∃ tok n xs,xL0_3=.sl tok n xs/\0<=n4/\n4 < (↑n : Int)/\true=true/\(∃ xs_1,likeCells [.i 0,.str k_,.i 0] xs_1=true/\List.take 3 (List.drop (n4.toNat * 3) xs)=xs_1)/\∀ (n : Int) (s : ByteArray) (n_1 : Int),List.take 3 (List.drop (n4.toNat * 3) xs)=[.i n,.str s,.i n_1]->((n ==
 1)=true->(decide (s ≠ ByteArray.mk #[42,100,101,102,97,117,108,116])=true->24=24/\∃ r S',dAppend2 (tabOf Tryz.prog) 24 x3 (.sl (some S.toks.length) 1 [.str s]) (S.born (1,9,1))=some (r,S')/\in64 (n4 + 1)/\K .normal [(4,.v (.one (.i (n4 + 1)))),(3,.v (.one r)),(2,.v (.one .nilsl)),(1,.loc 0 0)] S' [(30,[xL0_0,xL0_1,xL0_2,xL0_3,xL0_4]),(46,[.i n,.str s,.i n_1])])/\(decide (s ≠
 ByteArray.mk #[42,100,101,102,97,117,108,116])=false->in64 (n4 + 1)/\K .normal [(4,.v (.one (.i (n4 + 1)))),(3,.v (.one x3)),(2,.v (.one .nilsl)),(1,.loc 0 0)] S [(30,[xL0_0,xL0_1,xL0_2,xL0_3,xL0_4]),(46,[.i n,.str s,.i n_1])]))/\((n == 1)=false->((n == 2)=true->(decide (s ≠ ByteArray.mk #[42,100,101,102,97,117,108,116])=true->24=24/\∃ r S',dAppend2 (tabOf Tryz.prog) 24 x3 (.sl
 (some S.toks.length) 1 [.str s]) (S.born (1,9,1))=some (r,S')/\in64 (n4 + 1)/\K .normal [(4,.v (.one (.i (n4 + 1)))),(3,.v (.one r)),(2,.v (.one .nilsl)),(1,.loc 0 0)] S' [(30,[xL0_0,xL0_1,xL0_2,xL0_3,xL0_4]),(46,[.i n,.str s,.i n_1])])/\(decide (s ≠ ByteArray.mk #[42,100,101,102,97,117,108,116])=false->in64 (n4 + 1)/\K .normal [(4,.v (.one (.i (n4 + 1)))),(3,.v (.one
 x3)),(2,.v (.one .nilsl)),(1,.loc 0 0)] S [(30,[xL0_0,xL0_1,xL0_2,xL0_3,xL0_4]),(46,[.i n,.str s,.i n_1])]))/\((n == 2)=false->in64 (n4 + 1)/\K .normal [(4,.v (.one (.i (n4 + 1)))),(3,.v (.one x3)),(2,.v (.one .nilsl)),(1,.loc 0 0)] S [(30,[xL0_0,xL0_1,xL0_2,xL0_3,xL0_4]),(46,[.i n,.str s,.i n_1])])))/\(decide (n4 < (↑n : Int))=false->K (.exit 0) [(4,.v (.one (.i n4))),(3,.v
 (.one x3)),(2,.v (.one .nilsl)),(1,.loc 0 0)] S
 [(30,[xL0_0,xL0_1,xL0_2,xL0_3,xL0_4])])
 := by intros; kernel_rfl
theorem x30_0 : ∀ (hk : Hk) (plans : Nat->Plan) (S : St) (Q : AV->St->Prop) (n4 : Int) (x3 xL0_0 xL0_1 xL0_2 xL0_3 xL0_4 : AL) (S_1 : St),wCode.wEx (Cf.of true) hk Tryz.prog (tabOf Tryz.prog) 38 plans 1000 (.exit 0) [.blk 0,.seq (codeOf Tryz.prog 30 [1,1,1])] (wEnd (tabOf Tryz.prog) Tryz.f30 false S.boxes.length Q) [(4,.v (.one (.i n4))),(3,.v (.one x3)),(2,.v (.one
 .nilsl)),(1,.loc 0 0)] S_1 [(30,[xL0_0,xL0_1,xL0_2,xL0_3,xL0_4])]=(true=true/\Q (.one x3)
 S_1)
 := by intros; kernel_rfl
theorem v35 : ∀ (hk : Hk) (plans : Nat->Plan) (x0_0 x0_1 x0_2 x0_3 x0_4 : AL) (s1 : ByteArray) (S : St) (Q : AV->St->Prop),wFn (Cf.of true) hk Tryz.prog (tabOf Tryz.prog) plans false 35 [.agg [x0_0,x0_1,x0_2,x0_3,x0_4],.one (.str s1)] S Q=(true=true/\hk.2 22 (codeOf Tryz.prog 35 [1,0,1,0,0]) [.blk 0,.seq (codeOf Tryz.prog 35 [1,1])] (wEnd (tabOf Tryz.prog) Tryz.f35 false
 S.boxes.length Q) [(5,.v (.one (.i 0))),(4,.v (.one (.i 0))),(2,.loc 0 0),(0,.v (.agg [x0_0,x0_1,x0_2,x0_3,x0_4])),(1,.v (.one (.str s1)))] S
 [(30,[x0_0,x0_1,x0_2,x0_3,x0_4])])
 := by intros; kernel_rfl
theorem b35_0 : ∀ (hk : Hk) (plans : Nat->Plan) (s1 : ByteArray) (n5 n4 : Int) (xL0_0 xL0_1 xL0_2 xL0_3 xL0_4 : AL) (S : St) (K : QW),wCode (Cf.of true) hk Tryz.prog (tabOf Tryz.prog) 22 plans 1000 (codeOf Tryz.prog 35 [1,0,1,0,0]) [] (fun e env S L => K e (restr [5,4,2,1] env) S L) [(5,.v (.one (.i n5))),(4,.v (.one (.i n4))),(2,.loc 0 0),(1,.v (.one (.str s1)))] S
 [(30,[xL0_0,xL0_1,xL0_2,xL0_3,xL0_4])]=∃ n,xL0_1.len?=some n/\(decide (n5 < (↑n : Int))=true->∃ tok n xs,xL0_1=.sl tok n xs/\0<=n5/\n5 < (↑n : Int)/\(∃ x,likeCells [.str k_] [x]=true/\(List.drop 2 (List.drop (n5.toNat * 3) xs))[0]?=some x)/\∀ (s : ByteArray),(List.drop 2 (List.drop (n5.toNat * 3) xs))[0]?=some (.str s)->(decide (s=s1)=true->K .ret [(5,.v (.one (.i n5))),(4,.v
 (.one (.i n5))),(2,.loc 0 0),(1,.v (.one (.str s1)))] S [(30,[xL0_0,xL0_1,xL0_2,xL0_3,xL0_4])])/\(decide (s=s1)=false->in64 (n5 + 1)/\K .normal [(5,.v (.one (.i (n5 + 1)))),(4,.v (.one (.i n4))),(2,.loc 0 0),(1,.v (.one (.str s1)))] S [(30,[xL0_0,xL0_1,xL0_2,xL0_3,xL0_4])]))/\(decide (n5 < (↑n : Int))=false->K (.exit 0) [(5,.v (.one (.i n5))),(4,.v (.one (.i n4))),(2,.loc 0
 0),(1,.v (.one (.str s1)))] S
 [(30,[xL0_0,xL0_1,xL0_2,xL0_3,xL0_4])])
 := by intros; kernel_rfl
theorem x35_0 : ∀ (hk : Hk) (plans : Nat->Plan) (s1 : ByteArray) (S : St) (Q : AV->St->Prop) (n5 n4 : Int) (xL0_0 xL0_1 xL0_2 xL0_3 xL0_4 : AL) (S_1 : St),wCode.wEx (Cf.of true) hk Tryz.prog (tabOf Tryz.prog) 22 plans 1000 (.exit 0) [.blk 0,.seq (codeOf Tryz.prog 35 [1,1])] (wEnd (tabOf Tryz.prog) Tryz.f35 false S.boxes.length Q) [(5,.v (.one (.i n5))),(4,.v (.one (.i
 n4))),(2,.loc 0 0),(1,.v (.one (.str s1)))] S_1 [(30,[xL0_0,xL0_1,xL0_2,xL0_3,xL0_4])]=(true=true/\Q (.one (.i (-1)))
 S_1)
 := by intros; kernel_rfl
theorem v32 : ∀ (hk : Hk) (plans : Nat->Plan) (x0 : AL) (s1 : ByteArray) (S : St) (Q : AV->St->Prop),wFn (Cf.of true) hk Tryz.prog (tabOf Tryz.prog) plans false 32 [.one x0,.one (.str s1)] S Q=(true=true/\∃ R,hk.1 31 [.one x0,.one (.str s1)] S [] R/\∀ (b : Bool) (S1 : St),R (.one (.bool b)) S1->(b=true->true=true/\Q (.one x0) S1)/\(b=false->hk.2 47 (codeOf Tryz.prog 32
 [1,1,1,1,0,1,0,0]) [.blk 0,.seq (codeOf Tryz.prog 32 [1,1,1,1,1])] (wEnd (tabOf Tryz.prog) Tryz.f32 false S.boxes.length Q) [(7,.v (.one (.i 0))),(6,.kb false),(5,.v (.one (.sl (some S1.toks.length) 0 []))),(12,.v (.one (.sl (some S1.toks.length) 0 []))),(10,.v (.one (.bool b))),(9,.v (.one (.str s1))),(8,.v (.one x0)),(4,.v (.one .nilsl)),(0,.v (.one x0)),(1,.v (.one (.str
 s1)))] (S1.born (0,9,1))
 []))
 := by intros; kernel_rfl
theorem b32_0 : ∀ (hk : Hk) (plans : Nat->Plan) (x0 : AL) (s1 : ByteArray) (n7 : Int) (b6 : Bool) (x5 : AL) (S : St) (K : QW),wCode (Cf.of true) hk Tryz.prog (tabOf Tryz.prog) 47 plans 1000 (codeOf Tryz.prog 32 [1,1,1,1,0,1,0,0]) [] (fun e env S L => K e (restr [7,6,5,4,0,1] env) S L) [(7,.v (.one (.i n7))),(6,.v (.one (.bool b6))),(5,.v (.one x5)),(4,.v (.one .nilsl)),(0,.v
 (.one x0)),(1,.v (.one (.str s1)))] S []=∃ n,x0.len?=some n/\(decide (n7 < (↑n : Int))=true->((!b6)=true->∃ tok n xs,x0=.sl tok n xs/\0<=n7/\n7 < (↑n : Int)/\(∃ x,likeCells [.str k_] [x]=true/\(List.drop (n7.toNat * 1) xs)[0]?=some x)/\∀ (s : ByteArray),(List.drop (n7.toNat * 1) xs)[0]?=some (.str s)->(Op.bytesLess s1.toList s.toList=true->24=24/\∃ r S',dAppend2 (tabOf
 Tryz.prog) 24 x5 (.sl (some S.toks.length) 1 [.str s1]) (S.born (1,9,1))=some (r,S')/\∃ tok n xs,x0=.sl tok n xs/\0<=n7/\n7 < (↑n : Int)/\(∃ x,likeCells [.str k_] [x]=true/\(List.drop (n7.toNat * 1) xs)[0]?=some x)/\∀ (s : ByteArray),(List.drop (n7.toNat * 1) xs)[0]?=some (.str s)->24=24/\∃ r_1 S'_1,dAppend2 (tabOf Tryz.prog) 24 r (.sl (some S'.toks.length) 1 [.str s]) (S'.born
 (1,9,1))=some (r_1,S'_1)/\in64 (n7 + 1)/\K .normal [(7,.v (.one (.i (n7 + 1)))),(6,.v (.one (.bool true))),(5,.v (.one r_1)),(4,.v (.one .nilsl)),(0,.v (.one x0)),(1,.v (.one (.str s1)))] S'_1 [])/\(Op.bytesLess s1.toList s.toList=false->∃ tok n xs,x0=.sl tok n xs/\0<=n7/\n7 < (↑n : Int)/\(∃ x,likeCells [.str k_] [x]=true/\(List.drop (n7.toNat * 1) xs)[0]?=some x)/\∀ (s :
 ByteArray),(List.drop (n7.toNat * 1) xs)[0]?=some (.str s)->24=24/\∃ r S',dAppend2 (tabOf Tryz.prog) 24 x5 (.sl (some S.toks.length) 1 [.str s]) (S.born (1,9,1))=some (r,S')/\in64 (n7 + 1)/\K .normal [(7,.v (.one (.i (n7 + 1)))),(6,.v (.one (.bool b6))),(5,.v (.one r)),(4,.v (.one .nilsl)),(0,.v (.one x0)),(1,.v (.one (.str s1)))] S' []))/\((!b6)=false->∃ tok n xs,x0=.sl tok n
 xs/\0<=n7/\n7 < (↑n : Int)/\(∃ x,likeCells [.str k_] [x]=true/\(List.drop (n7.toNat * 1) xs)[0]?=some x)/\∀ (s : ByteArray),(List.drop (n7.toNat * 1) xs)[0]?=some (.str s)->24=24/\∃ r S',dAppend2 (tabOf Tryz.prog) 24 x5 (.sl (some S.toks.length) 1 [.str s]) (S.born (1,9,1))=some (r,S')/\in64 (n7 + 1)/\K .normal [(7,.v (.one (.i (n7 + 1)))),(6,.v (.one (.bool b6))),(5,.v (.one
 r)),(4,.v (.one .nilsl)),(0,.v (.one x0)),(1,.v (.one (.str s1)))] S' []))/\(decide (n7 < (↑n : Int))=false->K (.exit 0) [(7,.v (.one (.i n7))),(6,.v (.one (.bool b6))),(5,.v (.one x5)),(4,.v (.one .nilsl)),(0,.v (.one x0)),(1,.v (.one (.str s1)))] S
 [])
 := by intros; kernel_rfl
theorem x32_0 : ∀ (hk : Hk) (plans : Nat->Plan) (x0 : AL) (s1 : ByteArray) (S : St) (Q : AV->St->Prop) (n7 : Int) (b6 : Bool) (x5 : AL) (S_1 : St),wCode.wEx (Cf.of true) hk Tryz.prog (tabOf Tryz.prog) 47 plans 1000 (.exit 0) [.blk 0,.seq (codeOf Tryz.prog 32 [1,1,1,1,1])] (wEnd (tabOf Tryz.prog) Tryz.f32 false S.boxes.length Q) [(7,.v (.one (.i n7))),(6,.v (.one (.bool
 b6))),(5,.v (.one x5)),(4,.v (.one .nilsl)),(0,.v (.one x0)),(1,.v (.one (.str s1)))] S_1 []=(((!b6)=true->24=24/\∃ r S',dAppend2 (tabOf Tryz.prog) 24 x5 (.sl (some S_1.toks.length) 1 [.str s1]) (S_1.born (1,9,1))=some (r,S')/\true=true/\Q (.one r) S')/\((!b6)=false->true=true/\Q (.one x5)
 S_1))
 := by intros; kernel_rfl
theorem v36 : ∀ (hk : Hk) (plans : Nat->Plan) (x0_0 x0_1 x0_2 x0_3 x0_4 : AL) (S : St) (Q : AV->St->Prop),wFn (Cf.of true) hk Tryz.prog (tabOf Tryz.prog) plans false 36 [.agg [x0_0,x0_1,x0_2,x0_3,x0_4]] S Q=(true=true/\hk.2 75 (codeOf Tryz.prog 36 [1,1,0,1,0,0]) [.blk 0,.seq (codeOf Tryz.prog 36 [1,1,1])] (wEnd (tabOf Tryz.prog) Tryz.f36 false S.boxes.length Q) [(4,.v (.one (.i
 0))),(3,.v (.one (.sl (some S.toks.length) 0 []))),(7,.v (.one (.sl (some S.toks.length) 0 []))),(2,.v (.one .nilsl)),(1,.loc 0 0),(0,.v (.agg [x0_0,x0_1,x0_2,x0_3,x0_4]))] (S.born (0,9,1))
 [(30,[x0_0,x0_1,x0_2,x0_3,x0_4])])
 := by intros; kernel_rfl
theorem b36_0 : ∀ (hk : Hk) (plans : Nat->Plan) (n4 : Int) (x3 xL0_0 xL0_1 xL0_2 xL0_3 xL0_4 : AL) (S : St) (K : QW),wCode (Cf.of true) hk Tryz.prog (tabOf Tryz.prog) 75 plans 1000 (codeOf Tryz.prog 36 [1,1,0,1,0,0]) [] (fun e env S L => K e (restr [4,3,2,1] env) S L) [(4,.v (.one (.i n4))),(3,.v (.one x3)),(2,.v (.one .nilsl)),(1,.loc 0 0)] S
 [(30,[xL0_0,xL0_1,xL0_2,xL0_3,xL0_4])]=∃ n,xL0_4.len?=some n/\(decide (n4 < (↑n : Int))=true->∃ tok n xs,xL0_4=.sl tok n xs/\0<=n4/\n4 < (↑n : Int)/\(∃ x,likeCells [.i 0] [x]=true/\(List.drop 0 (List.drop (n4.toNat * 6) xs))[0]?=some x)/\∀ (n : Int),(List.drop 0 (List.drop (n4.toNat * 6) xs))[0]?=some (.i n)->∃ R,hk.1 63 [.one (.i n)] S [(30,[xL0_0,xL0_1,xL0_2,xL0_3,xL0_4])]
 R/\∀ (b : Bool) (S1 : St),R (.one (.bool b)) S1->(b=true->∃ tok n xs,xL0_4=.sl tok n xs/\0<=n4/\n4 < (↑n : Int)/\(∃ x,likeCells [.str k_] [x]=true/\(List.drop 2 (List.drop (n4.toNat * 6) xs))[0]?=some x)/\∀ (s : ByteArray),(List.drop 2 (List.drop (n4.toNat * 6) xs))[0]?=some (.str s)->∃ R,hk.1 32 [.one x3,.one (.str s)] S1 [(30,[xL0_0,xL0_1,xL0_2,xL0_3,xL0_4])] R/\∀ (x : AL)
 (S1 : St),R (.one x) S1->in64 (n4 + 1)/\K .normal [(4,.v (.one (.i (n4 + 1)))),(3,.v (.one x)),(2,.v (.one .nilsl)),(1,.loc 0 0)] S1 [(30,[xL0_0,xL0_1,xL0_2,xL0_3,xL0_4])])/\(b=false->in64 (n4 + 1)/\K .normal [(4,.v (.one (.i (n4 + 1)))),(3,.v (.one x3)),(2,.v (.one .nilsl)),(1,.loc 0 0)] S1 [(30,[xL0_0,xL0_1,xL0_2,xL0_3,xL0_4])]))/\(decide (n4 < (↑n : Int))=false->K (.exit 0)
 [(4,.v (.one (.i n4))),(3,.v (.one x3)),(2,.v (.one .nilsl)),(1,.loc 0 0)] S
 [(30,[xL0_0,xL0_1,xL0_2,xL0_3,xL0_4])])
 := by intros; kernel_rfl
theorem x36_0 : ∀ (hk : Hk) (plans : Nat->Plan) (S : St) (Q : AV->St->Prop) (n4 : Int) (x3 xL0_0 xL0_1 xL0_2 xL0_3 xL0_4 : AL) (S_1 : St),wCode.wEx (Cf.of true) hk Tryz.prog (tabOf Tryz.prog) 75 plans 1000 (.exit 0) [.blk 0,.seq (codeOf Tryz.prog 36 [1,1,1])] (wEnd (tabOf Tryz.prog) Tryz.f36 false S.boxes.length Q) [(4,.v (.one (.i n4))),(3,.v (.one x3)),(2,.v (.one
 .nilsl)),(1,.loc 0 0)] S_1 [(30,[xL0_0,xL0_1,xL0_2,xL0_3,xL0_4])]=hk.2 75 (codeOf Tryz.prog 36 [1,1,1,0,1,0,0]) [.blk 2,.seq (codeOf Tryz.prog 36 [1,1,1,1])] (wEnd (tabOf Tryz.prog) Tryz.f36 false S.boxes.length Q) [(5,.v (.one (.i 0))),(4,.v (.one (.i n4))),(3,.v (.one x3)),(2,.v (.one .nilsl)),(1,.loc 0 0)] S_1
 [(30,[xL0_0,xL0_1,xL0_2,xL0_3,xL0_4])]
 := by intros; kernel_rfl
theorem b36_1 : ∀ (hk : Hk) (plans : Nat->Plan) (n5 : Int) (x3 xL0_0 xL0_1 xL0_2 xL0_3 xL0_4 : AL) (S : St) (K : QW),wCode (Cf.of true) hk Tryz.prog (tabOf Tryz.prog) 75 plans 1000 (codeOf Tryz.prog 36 [1,1,1,0,1,0,0]) [] (fun e env S L => K e (restr [5,3,2,1] env) S L) [(5,.v (.one (.i n5))),(3,.v (.one x3)),(2,.v (.one .nilsl)),(1,.loc 0 0)] S
 [(30,[xL0_0,xL0_1,xL0_2,xL0_3,xL0_4])]=∃ n,xL0_3.len?=some n/\(decide (n5 < (↑n : Int))=true->∃ tok n xs,xL0_3=.sl tok n xs/\0<=n5/\n5 < (↑n : Int)/\(∃ x,likeCells [.i 0] [x]=true/\(List.drop 0 (List.drop (n5.toNat * 3) xs))[0]?=some x)/\∀ (n : Int),(List.drop 0 (List.drop (n5.toNat * 3) xs))[0]?=some (.i n)->((n == 3)=true->∃ tok n xs,xL0_3=.sl tok n xs/\0<=n5/\n5 < (↑n :
 Int)/\(∃ x,likeCells [.str k_] [x]=true/\(List.drop 1 (List.drop (n5.toNat * 3) xs))[0]?=some x)/\∀ (s : ByteArray),(List.drop 1 (List.drop (n5.toNat * 3) xs))[0]?=some (.str s)->∃ R,hk.1 32 [.one x3,.one (.str s)] S [(30,[xL0_0,xL0_1,xL0_2,xL0_3,xL0_4])] R/\∀ (x : AL) (S1 : St),R (.one x) S1->in64 (n5 + 1)/\K .normal [(5,.v (.one (.i (n5 + 1)))),(3,.v (.one x)),(2,.v (.one
 .nilsl)),(1,.loc 0 0)] S1 [(30,[xL0_0,xL0_1,xL0_2,xL0_3,xL0_4])])/\((n == 3)=false->in64 (n5 + 1)/\K .normal [(5,.v (.one (.i (n5 + 1)))),(3,.v (.one x3)),(2,.v (.one .nilsl)),(1,.loc 0 0)] S [(30,[xL0_0,xL0_1,xL0_2,xL0_3,xL0_4])]))/\(decide (n5 < (↑n : Int))=false->K (.exit 2) [(5,.v (.one (.i n5))),(3,.v (.one x3)),(2,.v (.one .nilsl)),(1,.loc 0 0)] S
 [(30,[xL0_0,xL0_1,xL0_2,xL0_3,xL0_4])])
 := by intros; kernel_rfl
theorem x36_1 : ∀ (hk : Hk) (plans : Nat->Plan) (S : St) (Q : AV->St->Prop) (n5 : Int) (x3 xL0_0 xL0_1 xL0_2 xL0_3 xL0_4 : AL) (S_1 : St),wCode.wEx (Cf.of true) hk Tryz.prog (tabOf Tryz.prog) 75 plans 1000 (.exit 2) [.blk 2,.seq (codeOf Tryz.prog 36 [1,1,1,1])] (wEnd (tabOf Tryz.prog) Tryz.f36 false S.boxes.length Q) [(5,.v (.one (.i n5))),(3,.v (.one x3)),(2,.v (.one
 .nilsl)),(1,.loc 0 0)] S_1 [(30,[xL0_0,xL0_1,xL0_2,xL0_3,xL0_4])]=hk.2 75 (codeOf Tryz.prog 36 [1,1,1,1,0,1,0,0]) [.blk 4,.seq (codeOf Tryz.prog 36 [1,1,1,1,1])] (wEnd (tabOf Tryz.prog) Tryz.f36 false S.boxes.length Q) [(6,.v (.one (.i 0))),(5,.v (.one (.i n5))),(3,.v (.one x3)),(2,.v (.one .nilsl)),(1,.loc 0 0)] S_1
 [(30,[xL0_0,xL0_1,xL0_2,xL0_3,xL0_4])]
 := by intros; kernel_rfl
theorem b36_2 : ∀ (hk : Hk) (plans : Nat->Plan) (n6 : Int) (x3 xL0_0 xL0_1 xL0_2 xL0_3 xL0_4 : AL) (S : St) (K : QW),wCode (Cf.of true) hk Tryz.prog (tabOf Tryz.prog) 75 plans 1000 (codeOf Tryz.prog 36 [1,1,1,1,0,1,0,0]) [] (fun e env S L => K e (restr [6,3,2,1] env) S L) [(6,.v (.one (.i n6))),(3,.v (.one x3)),(2,.v (.one .nilsl)),(1,.loc 0 0)] S
 [(30,[xL0_0,xL0_1,xL0_2,xL0_3,xL0_4])]=∃ n,xL0_2.len?=some n/\(decide (n6 < (↑n : Int))=true->∃ tok n xs,xL0_2=.sl tok n xs/\0<=n6/\n6 < (↑n : Int)/\(∃ x,likeCells [.i 0] [x]=true/\(List.drop 0 (List.drop (n6.toNat * 4) xs))[0]?=some x)/\∀ (n : Int),(List.drop 0 (List.drop (n6.toNat * 4) xs))[0]?=some (.i n)->((n == 1)=true->∃ tok n xs,xL0_2=.sl tok n xs/\0<=n6/\n6 < (↑n :
 Int)/\(∃ x,likeCells [.str k_] [x]=true/\(List.drop 2 (List.drop (n6.toNat * 4) xs))[0]?=some x)/\∀ (s : ByteArray),(List.drop 2 (List.drop (n6.toNat * 4) xs))[0]?=some (.str s)->∃ R,hk.1 32 [.one x3,.one (.str s)] S [(30,[xL0_0,xL0_1,xL0_2,xL0_3,xL0_4])] R/\∀ (x : AL) (S1 : St),R (.one x) S1->in64 (n6 + 1)/\K .normal [(6,.v (.one (.i (n6 + 1)))),(3,.v (.one x)),(2,.v (.one
 .nilsl)),(1,.loc 0 0)] S1 [(30,[xL0_0,xL0_1,xL0_2,xL0_3,xL0_4])])/\((n == 1)=false->in64 (n6 + 1)/\K .normal [(6,.v (.one (.i (n6 + 1)))),(3,.v (.one x3)),(2,.v (.one .nilsl)),(1,.loc 0 0)] S [(30,[xL0_0,xL0_1,xL0_2,xL0_3,xL0_4])]))/\(decide (n6 < (↑n : Int))=false->K (.exit 4) [(6,.v (.one (.i n6))),(3,.v (.one x3)),(2,.v (.one .nilsl)),(1,.loc 0 0)] S
 [(30,[xL0_0,xL0_1,xL0_2,xL0_3,xL0_4])])
 := by intros; kernel_rfl
theorem x36_2 : ∀ (hk : Hk) (plans : Nat->Plan) (S : St) (Q : AV->St->Prop) (n6 : Int) (x3 xL0_0 xL0_1 xL0_2 xL0_3 xL0_4 : AL) (S_1 : St),wCode.wEx (Cf.of true) hk Tryz.prog (tabOf Tryz.prog) 75 plans 1000 (.exit 4) [.blk 4,.seq (codeOf Tryz.prog 36 [1,1,1,1,1])] (wEnd (tabOf Tryz.prog) Tryz.f36 false S.boxes.length Q) [(6,.v (.one (.i n6))),(3,.v (.one x3)),(2,.v (.one
 .nilsl)),(1,.loc 0 0)] S_1 [(30,[xL0_0,xL0_1,xL0_2,xL0_3,xL0_4])]=(true=true/\Q (.one x3)
 S_1)
 := by intros; kernel_rfl
theorem v38 : ∀ (hk : Hk) (plans : Nat->Plan) (x0_0 x0_1 x0_2 x0_3 x0_4 : AL) (S : St) (Q : AV->St->Prop),wFn (Cf.of true) hk Tryz.prog (tabOf Tryz.prog) plans false 38 [.agg [x0_0,x0_1,x0_2,x0_3,x0_4]] S Q=(true=true/\∃ R,hk.1 36 [.agg [x0_0,x0_1,x0_2,x0_3,x0_4]] S [(30,[x0_0,x0_1,x0_2,x0_3,x0_4])] R/\∀ (x : AL) (S1 : St),R (.one x) S1->hk.2 34 (codeOf Tryz.prog 38
 [1,1,1,0,1,0,0]) [.blk 0,.seq (codeOf Tryz.prog 38 [1,1,1,1])] (wEnd (tabOf Tryz.prog) Tryz.f38 false S.boxes.length Q) [(5,.v (.one (.i 0))),(4,.v (.one (.sl (some S1.toks.length) 0 []))),(8,.v (.one (.sl (some S1.toks.length) 0 []))),(3,.v (.one x)),(7,.v (.one x)),(6,.v (.agg [x0_0,x0_1,x0_2,x0_3,x0_4])),(2,.v (.one .nilsl)),(1,.loc 0 0),(0,.v (.agg
 [x0_0,x0_1,x0_2,x0_3,x0_4]))] (S1.born (0,9,1))
 [(30,[x0_0,x0_1,x0_2,x0_3,x0_4])])
 := by intros; kernel_rfl
theorem b38_0 : ∀ (hk : Hk) (plans : Nat->Plan) (x : AL) (n5 : Int) (x4 xL0_0 xL0_1 xL0_2 xL0_3 xL0_4 : AL) (S : St) (K : QW),wCode (Cf.of true) hk Tryz.prog (tabOf Tryz.prog) 34 plans 1000 (codeOf Tryz.prog 38 [1,1,1,0,1,0,0]) [] (fun e env S L => K e (restr [5,4,3,2,1] env) S L) [(5,.v (.one (.i n5))),(4,.v (.one x4)),(3,.v (.one x)),(2,.v (.one .nilsl)),(1,.loc 0 0)] S
 [(30,[xL0_0,xL0_1,xL0_2,xL0_3,xL0_4])]=∃ n,xL0_1.len?=some n/\(decide (n5 < (↑n : Int))=true->∃ tok n xs,xL0_1=.sl tok n xs/\0<=n5/\n5 < (↑n : Int)/\(∃ x,likeCells [.str k_] [x]=true/\(List.drop 2 (List.drop (n5.toNat * 3) xs))[0]?=some x)/\∀ (s : ByteArray),(List.drop 2 (List.drop (n5.toNat * 3) xs))[0]?=some (.str s)->∃ R,hk.1 31 [.one x,.one (.str s)] S
 [(30,[xL0_0,xL0_1,xL0_2,xL0_3,xL0_4])] R/\∀ (b : Bool) (S1 : St),R (.one (.bool b)) S1->((!b)=true->∃ tok n xs,xL0_1=.sl tok n xs/\0<=n5/\n5 < (↑n : Int)/\(∃ x,likeCells [.str k_] [x]=true/\(List.drop 2 (List.drop (n5.toNat * 3) xs))[0]?=some x)/\∀ (s : ByteArray),(List.drop 2 (List.drop (n5.toNat * 3) xs))[0]?=some (.str s)->∃ R,hk.1 32 [.one x4,.one (.str s)] S1
 [(30,[xL0_0,xL0_1,xL0_2,xL0_3,xL0_4])] R/\∀ (x_1 : AL) (S1 : St),R (.one x_1) S1->in64 (n5 + 1)/\K .normal [(5,.v (.one (.i (n5 + 1)))),(4,.v (.one x_1)),(3,.v (.one x)),(2,.v (.one .nilsl)),(1,.loc 0 0)] S1 [(30,[xL0_0,xL0_1,xL0_2,xL0_3,xL0_4])])/\((!b)=false->in64 (n5 + 1)/\K .normal [(5,.v (.one (.i (n5 + 1)))),(4,.v (.one x4)),(3,.v (.one x)),(2,.v (.one .nilsl)),(1,.loc 0
 0)] S1 [(30,[xL0_0,xL0_1,xL0_2,xL0_3,xL0_4])]))/\(decide (n5 < (↑n : Int))=false->K (.exit 0) [(5,.v (.one (.i n5))),(4,.v (.one x4)),(3,.v (.one x)),(2,.v (.one .nilsl)),(1,.loc 0 0)] S
 [(30,[xL0_0,xL0_1,xL0_2,xL0_3,xL0_4])])
 := by intros; kernel_rfl
theorem x38_0 : ∀ (hk : Hk) (plans : Nat->Plan) (S : St) (Q : AV->St->Prop) (x : AL) (n5 : Int) (x4 xL0_0 xL0_1 xL0_2 xL0_3 xL0_4 : AL) (S_1 : St),wCode.wEx (Cf.of true) hk Tryz.prog (tabOf Tryz.prog) 34 plans 1000 (.exit 0) [.blk 0,.seq (codeOf Tryz.prog 38 [1,1,1,1])] (wEnd (tabOf Tryz.prog) Tryz.f38 false S.boxes.length Q) [(5,.v (.one (.i n5))),(4,.v (.one x4)),(3,.v (.one
 x)),(2,.v (.one .nilsl)),(1,.loc 0 0)] S_1 [(30,[xL0_0,xL0_1,xL0_2,xL0_3,xL0_4])]=(true=true/\Q (.one x4)
 S_1)
 := by intros; kernel_rfl
theorem v8 : ∀ (hk : Hk) (plans : Nat->Plan) (x0_0 x0_1 x0_2 x0_3 x0_4 : AL) (S : St) (Q : AV->St->Prop),wFn (Cf.of true) hk Tryz.prog (tabOf Tryz.prog) plans false 8 [.agg [x0_0,x0_1,x0_2,x0_3,x0_4]] S Q=(true=true/\∃ R,hk.1 30 [.agg [x0_0,x0_1,x0_2,x0_3,x0_4]] (S.born (0,9,1)) [(30,[x0_0,x0_1,x0_2,x0_3,x0_4])] R/\∀ (x : AL) (S1 : St),R (.one x) S1->hk.2 93 (codeOf Tryz.prog 8
 [1,1,1,0,1,0,0]) [.blk 0,.seq (codeOf Tryz.prog 8 [1,1,1,1])] (wEnd (tabOf Tryz.prog) Tryz.f8 false S.boxes.length Q) [(5,.v (.one (.i 0))),(4,.v (.one x)),(11,.v (.one x)),(10,.v (.agg [x0_0,x0_1,x0_2,x0_3,x0_4])),(3,.v (.one (.sl (some S.toks.length) 0 []))),(9,.v (.one (.sl (some S.toks.length) 0 []))),(2,.v (.one .nilsl)),(1,.loc 0 0),(0,.v (.agg
 [x0_0,x0_1,x0_2,x0_3,x0_4]))] S1
 [(30,[x0_0,x0_1,x0_2,x0_3,x0_4])])
 := by intros; kernel_rfl
theorem b8_0 : ∀ (hk : Hk) (plans : Nat->Plan) (S : St) (n5 : Int) (x4 xL0_0 xL0_1 xL0_2 xL0_3 xL0_4 : AL) (S_1 : St) (K : QW),wCode (Cf.of true) hk Tryz.prog (tabOf Tryz.prog) 93 plans 1000 (codeOf Tryz.prog 8 [1,1,1,0,1,0,0]) [] (fun e env S L => K e (restr [5,4,3,2,1] env) S L) [(5,.v (.one (.i n5))),(4,.v (.one x4)),(3,.v (.one (.sl (some S.toks.length) 0 []))),(2,.v (.one
 .nilsl)),(1,.loc 0 0)] S_1 [(30,[xL0_0,xL0_1,xL0_2,xL0_3,xL0_4])]=∃ n,xL0_1.len?=some n/\(decide (n5 < (↑n : Int))=true->∃ tok n xs,xL0_1=.sl tok n xs/\0<=n5/\n5 < (↑n : Int)/\(∃ x,likeCells [.str k_] [x]=true/\(List.drop 2 (List.drop (n5.toNat * 3) xs))[0]?=some x)/\∀ (s : ByteArray),(List.drop 2 (List.drop (n5.toNat * 3) xs))[0]?=some (.str s)->24=24/\∃ r S',dAppend2 (tabOf
 Tryz.prog) 24 x4 (.sl (some S_1.toks.length) 1 [.str s]) (S_1.born (1,9,1))=some (r,S')/\in64 (n5 + 1)/\K .normal [(5,.v (.one (.i (n5 + 1)))),(4,.v (.one r)),(3,.v (.one (.sl (some S.toks.length) 0 []))),(2,.v (.one .nilsl)),(1,.loc 0 0)] S' [(30,[xL0_0,xL0_1,xL0_2,xL0_3,xL0_4])])/\(decide (n5 < (↑n : Int))=false->K (.exit 0) [(5,.v (.one (.i n5))),(4,.v (.one x4)),(3,.v (.one
 (.sl (some S.toks.length) 0 []))),(2,.v (.one .nilsl)),(1,.loc 0 0)] S_1
 [(30,[xL0_0,xL0_1,xL0_2,xL0_3,xL0_4])])
 := by intros; kernel_rfl
theorem x8_0 : ∀ (hk : Hk) (plans : Nat->Plan) (S : St) (Q : AV->St->Prop) (n5 : Int) (x4 xL0_0 xL0_1 xL0_2 xL0_3 xL0_4 : AL) (S_1 : St),wCode.wEx (Cf.of true) hk Tryz.prog (tabOf Tryz.prog) 93 plans 1000 (.exit 0) [.blk 0,.seq (codeOf Tryz.prog 8 [1,1,1,1])] (wEnd (tabOf Tryz.prog) Tryz.f8 false S.boxes.length Q) [(5,.v (.one (.i n5))),(4,.v (.one x4)),(3,.v (.one (.sl (some
 S.toks.length) 0 []))),(2,.v (.one .nilsl)),(1,.loc 0 0)] S_1 [(30,[xL0_0,xL0_1,xL0_2,xL0_3,xL0_4])]=hk.2 93 (codeOf Tryz.prog 8 [1,1,1,1,0,1,0,0]) [.blk 2,.seq (codeOf Tryz.prog 8 [1,1,1,1,1])] (wEnd (tabOf Tryz.prog) Tryz.f8 false S.boxes.length Q) [(6,.v (.one (.i 0))),(5,.v (.one (.i n5))),(4,.v (.one x4)),(3,.v (.one (.sl (some S.toks.length) 0 []))),(2,.v (.one
 .nilsl)),(1,.loc 0 0)] S_1
 [(30,[xL0_0,xL0_1,xL0_2,xL0_3,xL0_4])]
 := by intros; kernel_rfl
theorem b8_1 : ∀ (hk : Hk) (plans : Nat->Plan) (x4 : AL) (n6 : Int) (x3 xL0_0 xL0_1 xL0_2 xL0_3 xL0_4 : AL) (S : St) (K : QW),wCode (Cf.of true) hk Tryz.prog (tabOf Tryz.prog) 93 plans 1000 (codeOf Tryz.prog 8 [1,1,1,1,0,1,0,0]) [] (fun e env S L => K e (restr [6,4,3,2,1] env) S L) [(6,.v (.one (.i n6))),(4,.v (.one x4)),(3,.v (.one x3)),(2,.v (.one .nilsl)),(1,.loc 0 0)] S
 [(30,[xL0_0,xL0_1,xL0_2,xL0_3,xL0_4])]=∃ n,xL0_4.len?=some n/\(decide (n6 < (↑n : Int))=true->∃ tok n xs,xL0_4=.sl tok n xs/\0<=n6/\n6 < (↑n : Int)/\true=true/\(∃ xs_1,likeCells [.i 0,.i 0,.str k_,.str k_,.i 0,.i 0] xs_1=true/\List.take 6 (List.drop (n6.toNat * 6) xs)=xs_1)/\∀ (n n_1 : Int) (s s_1 : ByteArray) (n_2 n_3 : Int),List.take 6 (List.drop (n6.toNat * 6) xs)=[.i n,.i
 n_1,.str s,.str s_1,.i n_2,.i n_3]->((n == 2)=true->∃ R,hk.1 31 [.one x4,.one (.str s)] S [(30,[xL0_0,xL0_1,xL0_2,xL0_3,xL0_4]),(59,[.i n,.i n_1,.str s,.str s_1,.i n_2,.i n_3])] R/\∀ (b : Bool) (S1 : St),R (.one (.bool b)) S1->((!b)=true->∃ R,hk.1 32 [.one x3,.one (.str s)] S1 [(30,[xL0_0,xL0_1,xL0_2,xL0_3,xL0_4]),(59,[.i n,.i n_1,.str s,.str s_1,.i n_2,.i n_3])] R/\∀ (x : AL)
 (S1 : St),R (.one x) S1->in64 (n6 + 1)/\K .normal [(6,.v (.one (.i (n6 + 1)))),(4,.v (.one x4)),(3,.v (.one x)),(2,.v (.one .nilsl)),(1,.loc 0 0)] S1 [(30,[xL0_0,xL0_1,xL0_2,xL0_3,xL0_4]),(59,[.i n,.i n_1,.str s,.str s_1,.i n_2,.i n_3])])/\((!b)=false->in64 (n6 + 1)/\K .normal [(6,.v (.one (.i (n6 + 1)))),(4,.v (.one x4)),(3,.v (.one x3)),(2,.v (.one .nilsl)),(1,.loc 0 0)] S1
 [(30,[xL0_0,xL0_1,xL0_2,xL0_3,xL0_4]),(59,[.i n,.i n_1,.str s,.str s_1,.i n_2,.i n_3])]))/\((n == 2)=false->((n == 3)=true->∃ R,hk.1 31 [.one x4,.one (.str s)] S [(30,[xL0_0,xL0_1,xL0_2,xL0_3,xL0_4]),(59,[.i n,.i n_1,.str s,.str s_1,.i n_2,.i n_3])] R/\∀ (b : Bool) (S1 : St),R (.one (.bool b)) S1->((!b)=true->∃ R,hk.1 32 [.one x3,.one (.str s)] S1
 [(30,[xL0_0,xL0_1,xL0_2,xL0_3,xL0_4]),(59,[.i n,.i n_1,.str s,.str s_1,.i n_2,.i n_3])] R/\∀ (x : AL) (S1 : St),R (.one x) S1->in64 (n6 + 1)/\K .normal [(6,.v (.one (.i (n6 + 1)))),(4,.v (.one x4)),(3,.v (.one x)),(2,.v (.one .nilsl)),(1,.loc 0 0)] S1 [(30,[xL0_0,xL0_1,xL0_2,xL0_3,xL0_4]),(59,[.i n,.i n_1,.str s,.str s_1,.i n_2,.i n_3])])/\((!b)=false->in64 (n6 + 1)/\K .normal
 [(6,.v (.one (.i (n6 + 1)))),(4,.v (.one x4)),(3,.v (.one x3)),(2,.v (.one .nilsl)),(1,.loc 0 0)] S1 [(30,[xL0_0,xL0_1,xL0_2,xL0_3,xL0_4]),(59,[.i n,.i n_1,.str s,.str s_1,.i n_2,.i n_3])]))/\((n == 3)=false->in64 (n6 + 1)/\K .normal [(6,.v (.one (.i (n6 + 1)))),(4,.v (.one x4)),(3,.v (.one x3)),(2,.v (.one .nilsl)),(1,.loc 0 0)] S [(30,[xL0_0,xL0_1,xL0_2,xL0_3,xL0_4]),(59,[.i
 n,.i n_1,.str s,.str s_1,.i n_2,.i n_3])])))/\(decide (n6 < (↑n : Int))=false->K (.exit 2) [(6,.v (.one (.i n6))),(4,.v (.one x4)),(3,.v (.one x3)),(2,.v (.one .nilsl)),(1,.loc 0 0)] S
 [(30,[xL0_0,xL0_1,xL0_2,xL0_3,xL0_4])])
 := by intros; kernel_rfl
theorem x8_1 : ∀ (hk : Hk) (plans : Nat->Plan) (S : St) (Q : AV->St->Prop) (x4 : AL) (n6 : Int) (x3 xL0_0 xL0_1 xL0_2 xL0_3 xL0_4 : AL) (S_1 : St),wCode.wEx (Cf.of true) hk Tryz.prog (tabOf Tryz.prog) 93 plans 1000 (.exit 2) [.blk 2,.seq (codeOf Tryz.prog 8 [1,1,1,1,1])] (wEnd (tabOf Tryz.prog) Tryz.f8 false S.boxes.length Q) [(6,.v (.one (.i n6))),(4,.v (.one x4)),(3,.v (.one
 x3)),(2,.v (.one .nilsl)),(1,.loc 0 0)] S_1 [(30,[xL0_0,xL0_1,xL0_2,xL0_3,xL0_4])]=hk.2 93 (codeOf Tryz.prog 8 [1,1,1,1,1,0,1,0,0]) [.blk 4,.seq (codeOf Tryz.prog 8 [1,1,1,1,1,1])] (wEnd (tabOf Tryz.prog) Tryz.f8 false S.boxes.length Q) [(8,.v (.one (.i 0))),(6,.v (.one (.i n6))),(4,.v (.one x4)),(3,.v (.one x3)),(2,.v (.one .nilsl)),(1,.loc 0 0)] S_1
 [(30,[xL0_0,xL0_1,xL0_2,xL0_3,xL0_4])]
 := by intros; kernel_rfl
theorem b8_2 : ∀ (hk : Hk) (plans : Nat->Plan) (x4 : AL) (n8 : Int) (x3 xL0_0 xL0_1 xL0_2 xL0_3 xL0_4 : AL) (S : St) (K : QW),wCode (Cf.of true) hk Tryz.prog (tabOf Tryz.prog) 93 plans 1000 (codeOf Tryz.prog 8 [1,1,1,1,1,0,1,0,0]) [] (fun e env S L => K e (restr [8,4,3,2,1] env) S L) [(8,.v (.one (.i n8))),(4,.v (.one x4)),(3,.v (.one x3)),(2,.v (.one .nilsl)),(1,.loc 0 0)] S
 [(30,[xL0_0,xL0_1,xL0_2,xL0_3,xL0_4])]=∃ n,xL0_3.len?=some n/\(decide (n8 < (↑n : Int))=true->∃ tok n xs,xL0_3=.sl tok n xs/\0<=n8/\n8 < (↑n : Int)/\(∃ x,likeCells [.i 0] [x]=true/\(List.drop 0 (List.drop (n8.toNat * 3) xs))[0]?=some x)/\∀ (n : Int),(List.drop 0 (List.drop (n8.toNat * 3) xs))[0]?=some (.i n)->((n == 3)=true->∃ tok n xs,xL0_3=.sl tok n xs/\0<=n8/\n8 < (↑n :
 Int)/\(∃ x,likeCells [.str k_] [x]=true/\(List.drop 1 (List.drop (n8.toNat * 3) xs))[0]?=some x)/\∀ (s : ByteArray),(List.drop 1 (List.drop (n8.toNat * 3) xs))[0]?=some (.str s)->∃ R,hk.1 31 [.one x4,.one (.str s)] S [(30,[xL0_0,xL0_1,xL0_2,xL0_3,xL0_4])] R/\∀ (b : Bool) (S1 : St),R (.one (.bool b)) S1->((!b)=true->∃ tok n xs,xL0_3=.sl tok n xs/\0<=n8/\n8 < (↑n : Int)/\(∃
 x,likeCells [.str k_] [x]=true/\(List.drop 1 (List.drop (n8.toNat * 3) xs))[0]?=some x)/\∀ (s : ByteArray),(List.drop 1 (List.drop (n8.toNat * 3) xs))[0]?=some (.str s)->∃ R,hk.1 32 [.one x3,.one (.str s)] S1 [(30,[xL0_0,xL0_1,xL0_2,xL0_3,xL0_4])] R/\∀ (x : AL) (S1 : St),R (.one x) S1->in64 (n8 + 1)/\K .normal [(8,WV.v (AV.one (.i (n8 + 1)))),(4,.v (.one x4)),(3,.v (.one
 x)),(2,.v (.one .nilsl)),(1,.loc 0 0)] S1 [(30,[xL0_0,xL0_1,xL0_2,xL0_3,xL0_4])])/\((!b)=false->in64 (n8 + 1)/\K .normal [(8,.v (.one (.i (n8 + 1)))),(4,.v (.one x4)),(3,.v (.one x3)),(2,.v (.one .nilsl)),(1,.loc 0 0)] S1 [(30,[xL0_0,xL0_1,xL0_2,xL0_3,xL0_4])]))/\((n == 3)=false->in64 (n8 + 1)/\K .normal [(8,.v (.one (.i (n8 + 1)))),(4,.v (.one x4)),(3,.v (.one x3)),(2,.v (.one
 .nilsl)),(1,.loc 0 0)] S [(30,[xL0_0,xL0_1,xL0_2,xL0_3,xL0_4])]))/\(decide (n8 < (↑n : Int))=false->K (.exit 4) [(8,.v (.one (.i n8))),(4,.v (.one x4)),(3,.v (.one x3)),(2,.v (.one .nilsl)),(1,.loc 0 0)] S
 [(30,[xL0_0,xL0_1,xL0_2,xL0_3,xL0_4])])
 := by intros; kernel_rfl
theorem x8_2 : ∀ (hk : Hk) (plans : Nat->Plan) (S : St) (Q : AV->St->Prop) (x4 : AL) (n8 : Int) (x3 xL0_0 xL0_1 xL0_2 xL0_3 xL0_4 : AL) (S_1 : St),wCode.wEx (Cf.of true) hk Tryz.prog (tabOf Tryz.prog) 93 plans 1000 (.exit 4) [.blk 4,.seq (codeOf Tryz.prog 8 [1,1,1,1,1,1])] (wEnd (tabOf Tryz.prog) Tryz.f8 false S.boxes.length Q) [(8,.v (.one (.i n8))),(4,.v (.one x4)),(3,.v
 (.one x3)),(2,.v (.one .nilsl)),(1,.loc 0 0)] S_1 [(30,[xL0_0,xL0_1,xL0_2,xL0_3,xL0_4])]=(true=true/\Q (.one x3)
 S_1)
 := by intros; kernel_rfl
theorem v37 : ∀ (hk : Hk) (plans : Nat->Plan) (x0 : AL) (n1 : Int) (x2 : AL) (S : St) (Q : AV->St->Prop),wFn (Cf.of true) hk Tryz.prog (tabOf Tryz.prog) plans false 37 [.one x0,.one (.i n1),.one x2] S Q=(true=true/\hk.2 24 (codeOf Tryz.prog 37 [1,0,1,0,0]) [.blk 0,.seq (codeOf Tryz.prog 37 [1,1])] (wEnd (tabOf Tryz.prog) Tryz.f37 false S.boxes.length Q) [(7,.v (.one (.i
 0))),(6,.v (.one .nilsl)),(0,.v (.one x0)),(1,.v (.one (.i n1))),(2,.v (.one x2))] S
 [])
 := by intros; kernel_rfl
theorem b37_0 : ∀ (hk : Hk) (plans : Nat->Plan) (n1 : Int) (x2 : AL) (n7 : Int) (x0 : AL) (S : St) (K : QW),wCode (Cf.of true) hk Tryz.prog (tabOf Tryz.prog) 24 plans 1000 (codeOf Tryz.prog 37 [1,0,1,0,0]) [] (fun e env S L => K e (restr [7,6,0,1,2] env) S L) [(7,.v (.one (.i n7))),(6,.v (.one .nilsl)),(0,.v (.one x0)),(1,.v (.one (.i n1))),(2,.v (.one x2))] S []=∃
 n,x2.len?=some n/\(decide (n7 < (↑n : Int))=true->∃ tok n xs,x2=.sl tok n xs/\0<=n7/\n7 < (↑n : Int)/\(∃ x,likeCells [.str k_] [x]=true/\(List.drop (n7.toNat * 1) xs)[0]?=some x)/\∀ (s : ByteArray),(List.drop (n7.toNat * 1) xs)[0]?=some (.str s)->32=32/\∃ r S',dAppend2 (tabOf Tryz.prog) 32 x0 (.sl (some S.toks.length) 1 [.i n1,.str s]) (S.born (2,36,2))=some (r,S')/\in64 (n7 +
 1)/\K .normal [(7,.v (.one (.i (n7 + 1)))),(6,.v (.one .nilsl)),(0,.v (.one r)),(1,.v (.one (.i n1))),(2,.v (.one x2))] S' [])/\(decide (n7 < (↑n : Int))=false->K (.exit 0) [(7,.v (.one (.i n7))),(6,.v (.one .nilsl)),(0,.v (.one x0)),(1,.v (.one (.i n1))),(2,.v (.one x2))] S
 [])
 := by intros; kernel_rfl
theorem x37_0 : ∀ (hk : Hk) (plans : Nat->Plan) (n1 : Int) (x2 : AL) (S : St) (Q : AV->St->Prop) (n7 : Int) (x0 : AL) (S_1 : St),wCode.wEx (Cf.of true) hk Tryz.prog (tabOf Tryz.prog) 24 plans 1000 (.exit 0) [.blk 0,.seq (codeOf Tryz.prog 37 [1,1])] (wEnd (tabOf Tryz.prog) Tryz.f37 false S.boxes.length Q) [(7,.v (.one (.i n7))),(6,.v (.one .nilsl)),(0,.v (.one x0)),(1,.v (.one
 (.i n1))),(2,.v (.one x2))] S_1 []=(true=true/\Q (.one x0)
 S_1)
 := by intros; kernel_rfl
theorem v9 : ∀ (hk : Hk) (plans : Nat->Plan) (x0 : AL) (s1 : ByteArray) (S : St) (Q : AV->St->Prop),wFn (Cf.of true) hk Tryz.prog (tabOf Tryz.prog) plans false 9 [.one x0,.one (.str s1)] S Q=(true=true/\hk.2 18 (codeOf Tryz.prog 9 [1,0,1,0,0]) [.blk 0,.seq (codeOf Tryz.prog 9 [1,1])] (wEnd (tabOf Tryz.prog) Tryz.f9 false S.boxes.length Q) [(5,.v (.one (.i 0))),(4,.kb
 false),(0,.v (.one x0)),(1,.v (.one (.str s1)))] S
 [])
 := by intros; kernel_rfl
theorem b9_0 : ∀ (hk : Hk) (plans : Nat->Plan) (x0 : AL) (s1 : ByteArray) (n5 : Int) (b4 : Bool) (S : St) (K : QW),wCode (Cf.of true) hk Tryz.prog (tabOf Tryz.prog) 18 plans 1000 (codeOf Tryz.prog 9 [1,0,1,0,0]) [] (fun e env S L => K e (restr [5,4,0,1] env) S L) [(5,.v (.one (.i n5))),(4,.v (.one (.bool b4))),(0,.v (.one x0)),(1,.v (.one (.str s1)))] S []=∃ n,x0.len?=some
 n/\(decide (n5 < (↑n : Int))=true->∃ tok n xs,x0=.sl tok n xs/\0<=n5/\n5 < (↑n : Int)/\(∃ x,likeCells [.str k_] [x]=true/\(List.drop (n5.toNat * 1) xs)[0]?=some x)/\∀ (s : ByteArray),(List.drop (n5.toNat * 1) xs)[0]?=some (.str s)->(decide (s=s1)=true->K .ret [(5,.v (.one (.i n5))),(4,.v (.one (.bool true))),(0,.v (.one x0)),(1,.v (.one (.str s1)))] S [])/\(decide
 (s=s1)=false->in64 (n5 + 1)/\K .normal [(5,.v (.one (.i (n5 + 1)))),(4,.v (.one (.bool b4))),(0,.v (.one x0)),(1,.v (.one (.str s1)))] S []))/\(decide (n5 < (↑n : Int))=false->K (.exit 0) [(5,.v (.one (.i n5))),(4,.v (.one (.bool b4))),(0,.v (.one x0)),(1,.v (.one (.str s1)))] S
 [])
 := by intros; kernel_rfl
theorem x9_0 : ∀ (hk : Hk) (plans : Nat->Plan) (x0 : AL) (s1 : ByteArray) (S : St) (Q : AV->St->Prop) (n5 : Int) (b4 : Bool) (S_1 : St),wCode.wEx (Cf.of true) hk Tryz.prog (tabOf Tryz.prog) 18 plans 1000 (.exit 0) [.blk 0,.seq (codeOf Tryz.prog 9 [1,1])] (wEnd (tabOf Tryz.prog) Tryz.f9 false S.boxes.length Q) [(5,.v (.one (.i n5))),(4,.v (.one (.bool b4))),(0,.v (.one
 x0)),(1,.v (.one (.str s1)))] S_1 []=(true=true/\Q (.one (.bool false))
 S_1)
 := by intros; kernel_rfl
theorem v11 : ∀ (hk : Hk) (plans : Nat->Plan) (x0 : AL) (S : St) (Q : AV->St->Prop),wFn (Cf.of true) hk Tryz.prog (tabOf Tryz.prog) plans false 11 [.one x0] S Q=(true=true/\hk.2 51 (codeOf Tryz.prog 11 [1,1,0,1,0,0]) [.blk 0,.seq (codeOf Tryz.prog 11 [1,1,1])] (wEnd (tabOf Tryz.prog) Tryz.f11 false S.boxes.length Q) [(4,.v (.one (.i 0))),(3,.v (.one (.str k_))),(2,.v (.one (.str k_))),(0,.v (.one x0))] S [])
 := by intros; kernel_rfl
theorem b11_0 : ∀ (hk : Hk) (plans : Nat->Plan) (x0 : AL) (n4 : Int) (s3 : ByteArray) (S : St) (K : QW),wCode (Cf.of true) hk Tryz.prog (tabOf Tryz.prog) 51 plans 1000 (codeOf Tryz.prog 11 [1,1,0,1,0,0]) [] (fun e env S L => K e (restr [4,3,2,0] env) S L) [(4,.v (.one (.i n4))),(3,.v (.one (.str s3))),(2,.v (.one (.str k_))),(0,.v (.one x0))] S []=∃ n,x0.len?=some n/\(decide
 (n4 < (↑n : Int))=true->∃ tok n xs,x0=.sl tok n xs/\0<=n4/\n4 < (↑n : Int)/\(∃ x,likeCells [.i 0] [x]=true/\(List.drop 0 (List.drop (n4.toNat * 2) xs))[0]?=some x)/\∀ (n : Int),(List.drop 0 (List.drop (n4.toNat * 2) xs))[0]?=some (.i n)->((n == 1)=true->s3.size + 6<=9223372036854775807/\(s3++k83).size + 1<=9223372036854775807/\∃ tok n xs,x0=.sl tok n xs/\0<=n4/\n4 < (↑n :
 Int)/\(∃ x,likeCells [.str k_] [x]=true/\(List.drop 1 (List.drop (n4.toNat * 2) xs))[0]?=some x)/\∀ (s : ByteArray),(List.drop 1 (List.drop (n4.toNat * 2) xs))[0]?=some (.str s)->(s3++k83++k28).size + s.size<=9223372036854775807/\(s3++k83++k28++s).size + 1<=9223372036854775807/\in64 (n4 + 1)/\K .normal [(4,.v (.one (.i (n4 + 1)))),(3,WV.v (AV.one (AL.str
 (s3++k83++k28++s++k72)))),(2,.v (.one (.str k_))),(0,.v (.one x0))] S [])/\((n == 1)=false->((n == 2)=true->s3.size + 4<=9223372036854775807/\(s3++k84).size + 1<=9223372036854775807/\∃ tok n xs,x0=.sl tok n xs/\0<=n4/\n4 < (↑n : Int)/\(∃ x,likeCells [.str k_] [x]=true/\(List.drop 1 (List.drop (n4.toNat * 2) xs))[0]?=some x)/\∀ (s : ByteArray),(List.drop 1 (List.drop (n4.toNat *
 2) xs))[0]?=some (.str s)->(s3++k84++k28).size + s.size<=9223372036854775807/\(s3++k84++k28++s).size + 1<=9223372036854775807/\in64 (n4 + 1)/\K .normal [(4,.v (.one (.i (n4 + 1)))),(3,WV.v (AV.one (AL.str (s3++k84++k28++s++k72)))),(2,.v (.one (.str k_))),(0,.v (.one x0))] S [])/\((n == 2)=false->((n == 3)=true->s3.size + 5<=9223372036854775807/\(s3++k85).size +
 1<=9223372036854775807/\∃ tok n xs,x0=.sl tok n xs/\0<=n4/\n4 < (↑n : Int)/\(∃ x,likeCells [.str k_] [x]=true/\(List.drop 1 (List.drop (n4.toNat * 2) xs))[0]?=some x)/\∀ (s : ByteArray),(List.drop 1 (List.drop (n4.toNat * 2) xs))[0]?=some (.str s)->(s3++k85++k28).size + s.size<=9223372036854775807/\(s3++k85++k28++s).size + 1<=9223372036854775807/\in64 (n4 + 1)/\K .normal [(4,.v
 (.one (.i (n4 + 1)))),(3,WV.v (AV.one (AL.str (s3++k85++k28++s++k72)))),(2,WV.v (.one (.str k_))),(0,.v (.one x0))] S [])/\((n == 3)=false->((n == 4)=true->s3.size + 5<=9223372036854775807/\(s3++k86).size + 1<=9223372036854775807/\∃ tok n xs,x0=.sl tok n xs/\0<=n4/\n4 < (↑n : Int)/\(∃ x,likeCells [.str k_] [x]=true/\(List.drop 1 (List.drop (n4.toNat * 2) xs))[0]?=some x)/\∀ (s
 : ByteArray),(List.drop 1 (List.drop (n4.toNat * 2) xs))[0]?=some (.str s)->(s3++k86++k28).size + s.size<=9223372036854775807/\(s3++k86++k28++s).size + 1<=9223372036854775807/\in64 (n4 + 1)/\K .normal [(4,.v (.one (.i (n4 + 1)))),(3,WV.v (AV.one (AL.str (s3++k86++k28++s++k72)))),(2,WV.v (AV.one (.str k_))),(0,.v (.one x0))] S [])/\((n == 4)=false->s3.size +
 4<=9223372036854775807/\∃ tok n xs,x0=.sl tok n xs/\0<=n4/\n4 < (↑n : Int)/\(∃ x,likeCells [.i 0] [x]=true/\(List.drop 0 (List.drop (n4.toNat * 2) xs))[0]?=some x)/\∀ (n : Int),(List.drop 0 (List.drop (n4.toNat * 2) xs))[0]?=some (.i n)->∃ R,hk.1 34 [.one (.i n)] S [] R/\∀ (s : ByteArray) (S1 : St),R (.one (.str s)) S1->(s3++k87).size +
 s.size<=9223372036854775807/\(s3++k87++s).size + 1<=9223372036854775807/\∃ tok n xs,x0=.sl tok n xs/\0<=n4/\n4 < (↑n : Int)/\(∃ x,likeCells [AL.str (k_)] [x]=true/\(List.drop 1 (List.drop (n4.toNat * 2) xs))[0]?=some x)/\∀ (s_1 : ByteArray),(List.drop 1 (List.drop (n4.toNat * 2) xs))[0]?=some (.str s_1)->(s3++k87++s++k28).size +
 s_1.size<=9223372036854775807/\(s3++k87++s++k28++s_1).size + 1<=9223372036854775807/\in64 (n4 + 1)/\K .normal [(4,WV.v (AV.one (.i (n4 + 1)))),(3,WV.v (AV.one (AL.str (s3++k87++s++k28++s_1++k72)))),(2,WV.v (AV.one (AL.str (k_)))),(0,.v (.one x0))] S1 [])))))/\(decide (n4 < (↑n : Int))=false->K (.exit 0) [(4,.v (.one (.i n4))),(3,.v (.one (.str s3))),(2,.v (.one (.str
 k_))),(0,.v (.one x0))] S
 [])
 := by intros; kernel_rfl
theorem x11_0 : ∀ (hk : Hk) (plans : Nat->Plan) (x0 : AL) (S : St) (Q : AV->St->Prop) (n4 : Int) (s3 : ByteArray) (S_1 : St),wCode.wEx (Cf.of true) hk Tryz.prog (tabOf Tryz.prog) 51 plans 1000 (.exit 0) [.blk 0,.seq (codeOf Tryz.prog 11 [1,1,1])] (wEnd (tabOf Tryz.prog) Tryz.f11 false S.boxes.length Q) [(4,.v (.one (.i n4))),(3,.v (.one (.str s3))),(2,.v (.one (.str k_))),(0,.v
 (.one x0))] S_1 []=(true=true/\Q (.one (.str s3))
 S_1)
 := by intros; kernel_rfl
end Go.Proofs.YtkdickfiifpblaaGreatDoor.D
namespace Go.Proofs.YtkdickfiifpblaaGreatDoor.D
open Go Go.Den Go.Proofs
set_option maxRecDepth 100000
variable {w0 : World}
def Vw {α : Type} (c : α → List AL) (x : AL) (l : List α) : Prop := (x = .nilsl ∧ l = []) ∨ ∃ tok, x = .sl tok l.length (l.flatMap c)
theorem Vw.len {α : Type} {c : α → List AL} {x : AL} {l : List α} (h : Vw c x l) : x.len? = some l.length := by
  obtain ⟨rfl, rfl⟩ | ⟨tok, rfl⟩ := h <;> rfl
theorem Vw.get {α : Type} {c : α → List AL} {sz : Nat} (hc : ∀ x, (c x).length = sz) {x : AL} {l : List α} (h : Vw c x l) {i : Nat} (hi : i < l.length) :
    ∃ tok a, x = .sl tok l.length (l.flatMap c) ∧ l[i]? = some a ∧ (∀ j, j < sz → (List.drop j (List.drop (i * sz) (l.flatMap c)))[0]? = (c a)[j]?) ∧ List.take sz (List.drop (i * sz) (l.flatMap c)) = c a := by
  obtain ⟨rfl, rfl⟩ | ⟨tok, rfl⟩ := h
  · simp at hi
  · refine ⟨tok, l[i], rfl, List.getElem?_eq_getElem hi, fun j hj => flat_get c sz hc l i j _ (List.getElem?_eq_getElem hi) hj, ?_⟩
    apply List.ext_getElem?
    intro j
    rw [List.getElem?_take]
    split
    · rename_i hj
      have := flat_get c sz hc l i j _ (List.getElem?_eq_getElem hi) hj
      rw [List.getElem?_drop] at this
      simpa using this
    · rename_i hj
      rw [List.getElem?_eq_none (by rw [hc]; omega)]
theorem _root_.Go.Den.Row.vw {α : Type} {c : α → List AL} {S : St} {e : TypeId} {sz : Nat} {x : AL} {l : List α} (h : Row S e sz x l.length (l.flatMap c)) : Vw c x l := by
  obtain ⟨_, ⟨rfl, h⟩ | ⟨tk, rfl, _⟩⟩ := h
  · exact .inl ⟨rfl, List.eq_nil_of_length_eq_zero h⟩
  · exact .inr ⟨_, rfl⟩
theorem Rq_len : ∀ x, (Rq x).length = 1 := fun _ => rfl
theorem take_next {α : Type} {l : List α} {i : Nat} {a : α} (h : l[i]? = some a) : l.take (i + 1) = l.take i ++ [a] := by
  have hi := (List.getElem?_eq_some_iff.1 h).1
  rw [List.take_add_one, h]
  rfl
theorem take_all {α : Type} {l : List α} {i : Nat} (h : ¬ i < l.length) : l.take i = l := List.take_of_length_le (by omega)
theorem lt_of_dec {a b : Nat} (h : decide ((a : Int) < (b : Int)) = true) : a < b := by have := of_decide_eq_true h; omega
theorem ge_of_dec {a b : Nat} (h : decide ((a : Int) < (b : Int)) = false) : ¬ a < b := by have := of_decide_eq_false h; omega
def iIn (S : St) (x : AL) (l : List BA) (s : BA) : Nat → KE := fun m env S' L => L = [] ∧ Ext S S' ∧ ∃ i : Nat, env = [(5, .v (int i)), (4, .v (bool false)), (0, .v (.one x)), (1, .v (str s))] ∧ i ≤ l.length ∧ m = l.length - i ∧ ∀ y, y ∈ l.take i → y ≠ s
theorem l6In_c {x : AL} {l : List BA} (s : BA) (h : Vw Rq x l) (hl : l.length ≤ 1000000) : CON w0 31 [.one x, str s] (fun v => v = bool (memB s l)) := by
  refine Con.of_fn (plans := np) hT hmo (nov := true) (fun v hv => ⟨Tryz.f31, [v], by kernel_rfl, rfl, by subst hv; kernel_rfl⟩) (fun S => ?_)
  rw [v31]
  refine ⟨rfl, [5, 4, 0, 1], iIn S x l s, l.length, ⟨rfl, Ext.refl S, 0, rfl, Nat.zero_le _, rfl, fun y hy => by simp at hy⟩, ?_⟩
  rintro m env S1 L1 ⟨rfl, hE, i, rfl, hi, rfl, hne⟩
  refine WSem.of hT hmo (nov := true) (plans := np) (f := 1000) ?_
  rw [b31_0]
  refine ⟨l.length, h.len, fun hlt => ?_, fun hge => ?_⟩
  · have hlt := lt_of_dec hlt
    obtain ⟨tok, a, hx, ha, hg, _⟩ := h.get Rq_len hlt
    refine ⟨tok, l.length, l.flatMap Rq, hx, by omega, by omega, ⟨_, rfl, hg 0 (by omega)⟩, fun y hy => ?_⟩
    have hy : some (AL.str a) = some (AL.str y) := (hg 0 (by omega)).symm.trans hy
    cases hy
    refine ⟨fun he => loopK.ret (L' := []) trivial rfl (kont.ret _ ⟨rfl, hE, ?_⟩), fun hn => ⟨by unfold in64; omega, loopK.again (L' := []) (m' := l.length - (i + 1)) trivial rfl (by omega) ⟨rfl, hE, i + 1, rfl, hlt, rfl, fun y hy => ?_⟩⟩⟩
    · have he := of_decide_eq_true he
      rw [memB_iff.2 (by rw [← he]; exact List.mem_of_getElem? ha)]
      rfl
    · rw [take_next ha] at hy
      rcases List.mem_append.1 hy with hy | hy
      · exact hne y hy
      · rw [List.mem_singleton.1 hy]
        exact of_decide_eq_false hn
  · have hge := ge_of_dec hge
    refine loopK.exit (L' := []) trivial rfl (kont.of hT hmo (nov := true) (plans := np) (f := 1000) ?_)
    rw [x31_0]
    refine ⟨rfl, hE, ?_⟩
    rw [take_all hge] at hne
    cases hm : memB s l with
    | false => rfl
    | true => exact absurd rfl (hne s (memB_iff.1 hm))
theorem _root_.Go.Den.Row.pushS {S : St} {x : AL} {l : List BA} (s : BA) (h : Row S 9 1 x l.length (l.flatMap Rq)) (hl : l.length ≤ 1000000) (y : Nat × TypeId × Nat) :
    ∃ r S', dAppend2 (tabOf Tryz.prog) 24 x (.sl (some S.toks.length) 1 [.str s]) (S.born y) = some (r, S') ∧ Row S' 9 1 r (l ++ [s]).length ((l ++ [s]).flatMap Rq) ∧ S'.boxes = S.boxes ∧ S.toks.length < S'.toks.length ∧
      (∀ u z, S.tok u = some z → x.tk ≠ some u → S'.tok u = some z) ∧ (∃ k, r.tk = some k ∧ S.toks.length ≤ k) ∧ (∀ u, u ∈ S.young → u ∈ S'.young) := by
  obtain ⟨r, S', h1, h2, h3, h4, h5, h6, h7⟩ := h.push (t := 24) T24 rfl T9 rfl (by decide) (ys := [.str s]) rfl (by unfold maxLen; omega) (by show (l.length + 1) * 16 ≤ _; omega) (some S.toks.length) y
  refine ⟨r, S', h1, ?_, h3, h4, h5, h6, h7⟩
  rw [List.length_append, List.flatMap_append]
  exact h2
structure Grew (S0 S : St) (x : AL) : Prop where
  bx : S.boxes = S0.boxes
  tok : ∀ t z, S0.tok t = some z → S.tok t = some z
  len : S0.toks.length ≤ S.toks.length
  yng : ∀ t, t ∈ S0.young → t ∈ S.young
  new : ∀ t, x.tk = some t → S0.toks.length ≤ t
theorem Grew.ext {S0 S : St} {x : AL} (h : Grew S0 S x) : Ext S0 S := ⟨h.bx, h.tok, h.len, h.yng⟩
theorem Grew.push {S0 S S' : St} {x r : AL} (h : Grew S0 S x) (h3 : S'.boxes = S.boxes) (h4 : S.toks.length < S'.toks.length) (h5 : ∀ u z, S.tok u = some z → x.tk ≠ some u → S'.tok u = some z) (h6 : ∃ k, r.tk = some k ∧ S.toks.length ≤ k) (h7 : ∀ u, u ∈ S.young → u ∈ S'.young) : Grew S0 S' r := by
  refine ⟨h3.trans h.bx, fun t z ht => h5 t z (h.tok t z ht) (fun he => ?_), by have := h.len; omega, fun t ht => h7 t (h.yng t ht), fun t ht => ?_⟩
  · have := h.new t he
    have := tok_lt ht
    omega
  · obtain ⟨k, hk, hle⟩ := h6
    rw [hk] at ht
    cases ht
    have := h.len
    omega
theorem Grew.on {S0 S S' : St} {x : AL} (h : Grew S0 S x) (k : Ext S S') : Grew S0 S' x :=
  ⟨k.1.trans h.bx, fun t z ht => k.2.tok t z (h.tok t z ht), Nat.le_trans h.len k.2.len, fun t ht => k.2.yng t (h.yng t ht), h.new⟩
theorem Grew.born {S0 S : St} (h : Ext S0 S) (y : Nat × TypeId × Nat) : Grew S0 (S.born y) (.sl (some S.toks.length) 0 []) :=
  ⟨h.1, fun t z ht => (TokLe.born S y).1 t z (h.2.tok t z ht), by rw [born_len]; have := h.2.len; omega, fun t ht => (TokLe.born S y).yng t (h.2.yng t ht), fun t ht => by cases ht; exact h.2.len⟩
def part (s : BA) (l : List BA) (b : Bool) : List BA := match b with | true => ins s l | false => l
def iPut (S : St) (x : AL) (l : List BA) (s : BA) : Nat → KE := fun m env S' L => L = [] ∧ ∃ (i : Nat) (b : Bool) (r : AL), env = [(7, .v (int i)), (6, .v (bool b)), (5, .v (.one r)), (4, .v (.one .nilsl)), (0, .v (.one x)), (1, .v (str s))] ∧ Grew S S' r ∧ i ≤ l.length ∧ m = l.length - i ∧
  Row S' 9 1 r (part s (l.take i) b).length ((part s (l.take i) b).flatMap Rq) ∧ (b = true ↔ ∃ y, y ∈ l.take i ∧ bl s y = true)
theorem part_len (s : BA) (l : List BA) (b : Bool) : (part s l b).length ≤ l.length + 1 := by
  cases b with
  | true => show (ins s l).length ≤ _; rw [ins_len]; omega
  | false => show l.length ≤ _; omega
theorem l8Put_c {x : AL} {l : List BA} (s : BA) (h : Vw Rq x l) (hl : l.length ≤ 900000) : CON w0 32 [.one x, str s] (fun v => ∃ r, v = .one r ∧ Vw Rq r (putS l s)) := by
  refine Con.of_fn (plans := np) hT hmo (nov := true) (fun v hv => ?_) (fun S => ?_)
  · obtain ⟨r, rfl, h | ⟨tok, h⟩⟩ := hv
    · exact ⟨Tryz.f32, [_], by kernel_rfl, rfl, by rw [h.1]; kernel_rfl⟩
    · exact ⟨Tryz.f32, [_], by kernel_rfl, rfl, by rw [h]; kernel_rfl⟩
  rw [v32]
  refine ⟨rfl, _, (l6In_c s h (by omega)).use S [], fun b S1 hR => ?_⟩
  obtain ⟨hE, hb⟩ := hR
  cases hb
  refine ⟨fun hb => ⟨rfl, hE, x, rfl, by unfold putS; rw [hb]; exact h⟩, fun hb => ?_⟩
  refine ⟨[7, 6, 5, 4, 0, 1], iPut S x l s, l.length, ⟨rfl, 0, false, _, rfl, Grew.born hE _, Nat.zero_le _, rfl, Row.born _ _ _, by simp⟩, ?_⟩
  rintro m env S2 L2 ⟨rfl, i, b, r, rfl, hG, hi, rfl, hrow, hbi⟩
  refine WSem.of hT hmo (nov := true) (plans := np) (f := 1000) ?_
  rw [b32_0]
  have hpl := part_len s (l.take i) b
  have htl : (l.take i).length ≤ l.length := by rw [List.length_take]; omega
  refine ⟨l.length, h.len, fun hlt => ?_, fun hge => ?_⟩
  · have hlt := lt_of_dec hlt
    obtain ⟨tok, a, hx, ha, hg, _⟩ := h.get Rq_len hlt
    have ga : ∀ y, (List.drop (((i : Nat) : Int).toNat * 1) (l.flatMap Rq))[0]? = some (AL.str y) → y = a := fun y hy => by
      have hy : some (AL.str a) = some (AL.str y) := (hg 0 (by omega)).symm.trans hy
      cases hy
      rfl
    -- the element is taken
    have go : ∀ (b' : Bool) (r1 : AL) (S3 : St) (l1 : List BA), Grew S S3 r1 → Row S3 9 1 r1 l1.length (l1.flatMap Rq) → l1.length ≤ 1000000 → l1 ++ [a] = part s (l.take (i + 1)) b' → (b' = true ↔ ∃ y, y ∈ l.take (i + 1) ∧ bl s y = true) →
        24 = 24 ∧ ∃ r S', dAppend2 (tabOf Tryz.prog) 24 r1 (.sl (some S3.toks.length) 1 [.str a]) (S3.born (1, 9, 1)) = some (r, S') ∧ in64 ((i : Int) + 1) ∧ loopK (iPut S x l s) 0 (l.length - i) (KT w0 47 [Kn.blk 0, Kn.seq (CO 32 [1, 1, 1, 1, 1])] (WE Tryz.f32 S.boxes.length fun v S' => Ext S S' ∧ ∃ r, v = .one r ∧ Vw Rq r (putS l s))) .normal
          [(7, .v (int ((i : Int) + 1))), (6, .v (bool b')), (5, .v (.one r)), (4, .v (.one .nilsl)), (0, .v (.one x)), (1, .v (str s))] S' [] := by
      intro b' r1 S3 l1 hG1 hrow1 hl1 he hb'
      obtain ⟨r2, S4, g1, g2, g3, g4, g5, g6, g7⟩ := hrow1.pushS a hl1 (1, 9, 1)
      rw [he] at g2
      exact ⟨rfl, r2, S4, g1, by unfold in64; omega, loopK.again (L' := []) (m' := l.length - (i + 1)) trivial rfl (by omega) ⟨rfl, i + 1, b', r2, rfl, hG1.push g3 g4 g5 g6 g7, hlt, rfl, g2, hb'⟩⟩
    have nx : ∀ y, y ∈ l.take (i + 1) ↔ y ∈ l.take i ∨ y = a := fun y => by rw [take_next ha]; simp
    refine ⟨fun hnb => ?_, fun hnb => ?_⟩
    · have hb0 : b = false := by cases b <;> simp_all
      subst hb0
      have hno : ∀ y, y ∈ l.take i → bl s y = false := fun y hy => by
        cases hbl : bl s y with
        | false => rfl
        | true => exact absurd (hbi.2 ⟨y, hy, hbl⟩) (by simp)
      refine ⟨tok, l.length, _, hx, by omega, by omega, ⟨_, rfl, hg 0 (by omega)⟩, fun y hy => ?_⟩
      obtain rfl := ga y hy
      refine ⟨fun hs => ?_, fun hs => ?_⟩
      · obtain ⟨r2, S4, g1, g2, g3, g4, g5, g6, g7⟩ := hrow.pushS s (by omega) (1, 9, 1)
        refine ⟨rfl, r2, S4, g1, tok, l.length, _, hx, by omega, by omega, ⟨_, rfl, hg 0 (by omega)⟩, fun y2 hy2 => ?_⟩
        obtain rfl := ga y2 hy2
        refine go true r2 S4 _ (hG.push g3 g4 g5 g6 g7) g2 (by simp only [part, List.length_append, List.length_singleton]; omega) ?_ ⟨fun _ => ⟨y2, (nx y2).2 (.inr rfl), hs⟩, fun _ => rfl⟩
        show (l.take i ++ [s]) ++ [y2] = ins s (l.take (i + 1))
        rw [take_next ha, ins_here hno hs]
        simp
      · refine ⟨tok, l.length, _, hx, by omega, by omega, ⟨_, rfl, hg 0 (by omega)⟩, fun y2 hy2 => ?_⟩
        obtain rfl := ga y2 hy2
        refine go false r S2 _ hG hrow (by omega) (by show l.take i ++ [y2] = l.take (i + 1); rw [take_next ha]) ⟨fun h => (by cases h), fun ⟨z, hz, hs'⟩ => ?_⟩
        rcases (nx z).1 hz with hz | rfl
        · exact hbi.2 ⟨z, hz, hs'⟩
        · have : bl s z = false := hs
          rw [this] at hs'
          exact hs'
    · have hb0 : b = true := by cases b <;> simp_all
      subst hb0
      refine ⟨tok, l.length, _, hx, by omega, by omega, ⟨_, rfl, hg 0 (by omega)⟩, fun y2 hy2 => ?_⟩
      obtain rfl := ga y2 hy2
      obtain ⟨z, hz, hs⟩ := hbi.1 rfl
      refine go true r S2 _ hG hrow (by omega) ?_ ⟨fun _ => ⟨z, (nx z).2 (.inl hz), hs⟩, fun _ => rfl⟩
      show ins s (l.take i) ++ [y2] = ins s (l.take (i + 1))
      rw [take_next ha, ins_on ⟨z, hz, hs⟩]
  · have hge := ge_of_dec hge
    refine loopK.exit (L' := []) trivial rfl (kont.of hT hmo (nov := true) (plans := np) (f := 1000) ?_)
    rw [x32_0]
    rw [take_all hge] at hrow hbi hpl
    have hp : putS l s = ins s l := by unfold putS; rw [hb]
    refine ⟨fun hnb => ?_, fun hnb => ?_⟩
    · have hb0 : b = false := by cases b <;> simp_all
      subst hb0
      have hno : ∀ y, y ∈ l → bl s y = false := fun y hy => by
        cases hbl : bl s y with
        | false => rfl
        | true => exact absurd (hbi.2 ⟨y, hy, hbl⟩) (by simp)
      obtain ⟨r2, S4, g1, g2, g3, g4, g5, g6, g7⟩ := hrow.pushS s (by omega) (1, 9, 1)
      refine ⟨rfl, r2, S4, g1, rfl, (hG.push g3 g4 g5 g6 g7).ext, r2, rfl, ?_⟩
      rw [hp, ins_none hno]
      exact Row.vw g2
    · have hb0 : b = true := by cases b <;> simp_all
      subst hb0
      refine ⟨rfl, hG.ext, r, rfl, ?_⟩
      rw [hp]
      exact Row.vw hrow
end Go.Proofs.YtkdickfiifpblaaGreatDoor.D
namespace Go.Proofs.YtkdickfiifpblaaGreatDoor.D
open Go Go.Den Go.Proofs
set_option maxRecDepth 100000
variable {w0 : World}
structure MV (m : Md) : Prop where
  vr : Vw Rq m.xr m.reqs
  vi : Vw Im.cells m.xi m.imps
  ve : Vw Xp.cells m.xe m.exps
  vs : Vw Sm.cells m.xs m.stmts
  vx : Vw Er.cells m.xx m.exprs
  cr : m.reqs.length ≤ 1000
  ci : m.imps.length ≤ 1000
  ce : m.exps.length ≤ 1000
  cs : m.stmts.length ≤ 1000
  cx : m.exprs.length ≤ 1000
theorem Im_len : ∀ x, (Im.cells x).length = 3 := fun _ => rfl
theorem Xp_len : ∀ x, (Xp.cells x).length = 4 := fun _ => rfl
theorem Sm_len : ∀ x, (Sm.cells x).length = 3 := fun _ => rfl
theorem Er_len : ∀ x, (Er.cells x).length = 6 := fun _ => rfl
section
variable {α : Type} {c : α → List AL} {sz : Nat} {x : AL} {l : List α}
theorem rdC (hc : ∀ x, (c x).length = sz) (h : Vw c x l) {i : Nat} {a : α} (ha : l[i]? = some a) {j : Nat} (hj : j < sz) {z y : AL} (hy : (c a)[j]? = some y) (hz : likeCells [z] [y] = true) {β : Type} {k : β → AL} {H : β → Prop} (hH : ∀ b, k b = y → H b) :
    ∃ tok n xs, x = .sl tok n xs ∧ 0 ≤ (i : Int) ∧ (i : Int) < (n : Int) ∧ (∃ y, likeCells [z] [y] = true ∧ (List.drop j (List.drop ((i : Int).toNat * sz) xs))[0]? = some y) ∧ ∀ b, (List.drop j (List.drop ((i : Int).toNat * sz) xs))[0]? = some (k b) → H b := by
  have hi := (List.getElem?_eq_some_iff.1 ha).1
  obtain ⟨tok, a', hx, ha', hg, _⟩ := h.get hc hi
  rw [ha] at ha'
  cases ha'
  refine ⟨tok, l.length, _, hx, by omega, by omega, ⟨y, hz, (hg j hj).trans hy⟩, fun b hb => hH b ?_⟩
  have : some (k b) = some y := hb.symm.trans ((hg j hj).trans hy)
  injection this
theorem rdS (hc : ∀ x, (c x).length = sz) (h : Vw c x l) {i : Nat} {a : α} (ha : l[i]? = some a) {j : Nat} (hj : j < sz) {s : BA} (hy : (c a)[j]? = some (.str s)) {H : BA → Prop} (hH : H s) :
    ∃ tok n xs, x = .sl tok n xs ∧ 0 ≤ (i : Int) ∧ (i : Int) < (n : Int) ∧ (∃ y, likeCells [.str ⟨⟨[]⟩⟩] [y] = true ∧ (List.drop j (List.drop ((i : Int).toNat * sz) xs))[0]? = some y) ∧ ∀ b, (List.drop j (List.drop ((i : Int).toNat * sz) xs))[0]? = some (.str b) → H b :=
  rdC hc h ha hj hy rfl (fun b hb => by cases hb; exact hH)
theorem rdI (hc : ∀ x, (c x).length = sz) (h : Vw c x l) {i : Nat} {a : α} (ha : l[i]? = some a) {j : Nat} (hj : j < sz) {s : Int} (hy : (c a)[j]? = some (.int .i64 s)) {H : Int → Prop} (hH : H s) :
    ∃ tok n xs, x = .sl tok n xs ∧ 0 ≤ (i : Int) ∧ (i : Int) < (n : Int) ∧ (∃ y, likeCells [.int .i64 0] [y] = true ∧ (List.drop j (List.drop ((i : Int).toNat * sz) xs))[0]? = some y) ∧ ∀ b, (List.drop j (List.drop ((i : Int).toNat * sz) xs))[0]? = some (.int .i64 b) → H b :=
  rdC hc h ha hj hy rfl (fun b hb => by cases hb; exact hH)
theorem rd1 {l : List BA} (h : Vw Rq x l) {i : Nat} {a : BA} (ha : l[i]? = some a) {H : BA → Prop} (hH : H a) :
    ∃ tok n xs, x = .sl tok n xs ∧ 0 ≤ (i : Int) ∧ (i : Int) < (n : Int) ∧ (∃ y, likeCells [.str ⟨⟨[]⟩⟩] [y] = true ∧ (List.drop ((i : Int).toNat * 1) xs)[0]? = some y) ∧ ∀ b, (List.drop ((i : Int).toNat * 1) xs)[0]? = some (.str b) → H b :=
  rdS Rq_len h ha (j := 0) (by omega) rfl hH
theorem rdA (hc : ∀ x, (c x).length = sz) (h : Vw c x l) {i : Nat} {a : α} (ha : l[i]? = some a) {zs : List AL} (hz : likeCells zs (c a) = true) {H : List AL → Prop} (hH : H (c a)) :
    ∃ tok n xs, x = .sl tok n xs ∧ 0 ≤ (i : Int) ∧ (i : Int) < (n : Int) ∧ true = true ∧ (∃ ys, likeCells zs ys = true ∧ List.take sz (List.drop ((i : Int).toNat * sz) xs) = ys) ∧ H (List.take sz (List.drop ((i : Int).toNat * sz) xs)) := by
  have hi := (List.getElem?_eq_some_iff.1 ha).1
  obtain ⟨tok, a', hx, ha', _, ht⟩ := h.get hc hi
  rw [ha] at ha'
  cases ha'
  exact ⟨tok, l.length, _, hx, by omega, by omega, rfl, ⟨c a, hz, ht⟩, by
    have ht' : List.take sz (List.drop ((i : Int).toNat * sz) (l.flatMap c)) = c a := ht
    rw [ht']
    exact hH⟩
end
def fm {α : Type} (p : α → Bool) (f : α → BA) (l : List α) : List BA := (l.filter p).map f
theorem fm_next {α : Type} {p : α → Bool} {f : α → BA} {l : List α} {i : Nat} {a : α} (h : l[i]? = some a) : fm p f (l.take (i + 1)) = if p a = true then fm p f (l.take i) ++ [f a] else fm p f (l.take i) := by
  rw [take_next h]
  unfold fm
  rw [List.filter_append]
  by_cases hp : p a = true <;> simp [hp]
theorem fm_yes {α : Type} {p : α → Bool} {f : α → BA} {l : List α} {i : Nat} {a : α} (h : l[i]? = some a) (hp : p a = true) : fm p f (l.take (i + 1)) = fm p f (l.take i) ++ [f a] := by rw [fm_next h, if_pos hp]
theorem fm_no {α : Type} {p : α → Bool} {f : α → BA} {l : List α} {i : Nat} {a : α} (h : l[i]? = some a) (hp : p a = false) : fm p f (l.take (i + 1)) = fm p f (l.take i) := by rw [fm_next h, if_neg (by simp [hp])]
theorem fm_len {α : Type} (p : α → Bool) (f : α → BA) (l : List α) : (fm p f l).length ≤ l.length := by
  unfold fm
  rw [List.length_map]
  exact List.length_filter_le _ _
theorem fm_mem {α : Type} {p : α → Bool} {f : α → BA} {l : List α} {s : BA} : s ∈ fm p f l ↔ ∃ a, a ∈ l ∧ p a = true ∧ f a = s := by
  unfold fm
  simp [List.mem_map, List.mem_filter, and_assoc]
theorem set_app (l : List BA) (s : BA) : putS (setOf l) s = setOf (l ++ [s]) := by unfold setOf; rw [List.foldl_append]; rfl
theorem setOf_len (l : List BA) : (setOf l).length ≤ l.length := by have := foldl_len l []; simpa [setOf] using this
def named (k : Int) : Bool := k == 2 || k == 3 || k == 4 || k == 5
theorem l16Named_c (k : Int) : CON w0 63 [int k] (fun v => v = bool (named k)) := by
  refine Con.of_fn (plans := np) hT hmo (nov := true) (fun v hv => ⟨Tryz.f63, [v], by kernel_rfl, rfl, by subst hv; kernel_rfl⟩) (fun S => ?_)
  rw [v63]
  unfold named
  refine ⟨rfl, fun h => ⟨rfl, Ext.refl S, ?_⟩, fun h => ⟨fun h2 => ⟨rfl, Ext.refl S, ?_⟩, fun h2 => ⟨fun h3 => ⟨rfl, Ext.refl S, ?_⟩, fun h3 => ⟨rfl, Ext.refl S, ?_⟩⟩⟩⟩ <;> simp_all
theorem vsh {f : FuncId} {fn : Func} (hf : Tryz.prog.funcs[f]? = some fn) (hl : likeVs (tabOf Tryz.prog) fn.resultTypes.toList [.one .nilsl] = true) {x : AL} {α : Type} {c : α → List AL} {l : List α} (h : Vw c x l) :
    ∃ fn vs, Tryz.prog.funcs[f]? = some fn ∧ AV.one x = tupOf vs ∧ likeVs (tabOf Tryz.prog) fn.resultTypes.toList vs = true := by
  refine ⟨fn, [.one x], hf, rfl, ?_⟩
  obtain ⟨rfl, _⟩ | ⟨tok, rfl⟩ := h
  · exact hl
  · generalize fn.resultTypes.toList = ts at hl ⊢
    match ts with
    | [] => exact hl
    | [t] =>
      simp only [likeVs, Bool.and_true] at hl ⊢
      unfold likeV at hl ⊢
      cases hd : (tabOf Tryz.prog).desc t with
      | none => rw [hd] at hl; exact hl
      | some d =>
        rw [hd] at hl
        simp only [] at hl ⊢
        cases hr : d.row with
        | true => rw [hr] at hl; exact hl
        | false =>
          rw [hr] at hl
          simp only [] at hl ⊢
          match hz : d.zero with
          | [] => rw [hz] at hl; exact hl
          | z :: zs =>
            rw [hz] at hl
            simp only [likeCells, Bool.and_eq_true] at hl ⊢
            refine ⟨?_, hl.2⟩
            have h1 := hl.1
            cases z <;> first | rfl | exact h1
    | _ :: _ :: _ => simp [likeVs] at hl
def rL (l : List BA) (v : AV) : Prop := ∃ r, v = .one r ∧ Vw Rq r l
abbrev mL (m : Md) : Lo := [(30, m.cs)]
def uses (m : Md) : List BA := fm (fun e => named e.k) Er.name m.exprs ++ fm (fun s => s.k == 3) Sm.name m.stmts ++ fm (fun x => x.k == 1) Xp.loc m.exps
def iU (S : St) (m : Md) (k : Nat) (n : Nat) (g : Nat → List BA) : Nat → KE := fun mm env S' L => L = mL m ∧ ∃ (i : Nat) (r : AL), env = [(k, .v (int i)), (3, .v (.one r)), (2, .v (.one .nilsl)), (1, .loc 0 0)] ∧ Ext S S' ∧ i ≤ n ∧ mm = n - i ∧ Vw Rq r (setOf (g i))
def gU1 (m : Md) (i : Nat) : List BA := fm (fun e => named e.k) Er.name (m.exprs.take i)
def gU2 (m : Md) (i : Nat) : List BA := fm (fun e => named e.k) Er.name m.exprs ++ fm (fun s => s.k == 3) Sm.name (m.stmts.take i)
def gU3 (m : Md) (i : Nat) : List BA := fm (fun e => named e.k) Er.name m.exprs ++ fm (fun s => s.k == 3) Sm.name m.stmts ++ fm (fun x => x.k == 1) Xp.loc (m.exps.take i)
theorem Uses_c {m : Md} (h : MV m) : CON w0 36 [m.av] (rL (setOf (uses m))) := by
  refine Con.of_fn (plans := np) hT hmo (nov := true) (fun v hv => by obtain ⟨r, rfl, hr⟩ := hv; exact vsh (fn := Tryz.f36) (by kernel_rfl) (by kernel_rfl) hr) (fun S => ?_)
  rw [v36]
  have b1 : ∀ i, (setOf (gU1 m i)).length ≤ 900000 := fun i => by
    refine Nat.le_trans (setOf_len _) ?_
    have a2 := fm_len (fun e : Er => named e.k) Er.name (m.exprs.take i)
    rw [List.length_take] at a2
    have := h.cx
    show (fm _ _ _).length ≤ _
    omega
  have b2 : ∀ i, (setOf (gU2 m i)).length ≤ 900000 := fun i => by
    refine Nat.le_trans (setOf_len _) ?_
    have a2 := fm_len (fun e : Er => named e.k) Er.name m.exprs
    have a3 := fm_len (fun s : Sm => s.k == 3) Sm.name (m.stmts.take i)
    rw [List.length_take] at a3
    have := h.cx
    have := h.cs
    unfold gU2
    rw [List.length_append]
    omega
  have b3 : ∀ i, (setOf (gU3 m i)).length ≤ 900000 := fun i => by
    refine Nat.le_trans (setOf_len _) ?_
    have a2 := fm_len (fun e : Er => named e.k) Er.name m.exprs
    have a3 := fm_len (fun s : Sm => s.k == 3) Sm.name m.stmts
    have a4 := fm_len (fun x : Xp => x.k == 1) Xp.loc (m.exps.take i)
    rw [List.length_take] at a4
    have := h.cx
    have := h.cs
    have := h.ce
    unfold gU3
    rw [List.length_append, List.length_append]
    omega
  refine ⟨rfl, [4, 3, 2, 1], iU S m 4 m.exprs.length (gU1 m), m.exprs.length, ⟨rfl, 0, _, rfl, Ext.born S _, Nat.zero_le _, rfl, .inr ⟨_, rfl⟩⟩, ?_⟩
  rintro mm env S1 L1 ⟨rfl, i, r, rfl, hE, hi, rfl, hr⟩
  refine WSem.of hT hmo (nov := true) (plans := np) (f := 1000) ?_
  rw [b36_0]
  refine ⟨m.exprs.length, h.vx.len, fun hlt => ?_, fun hge => ?_⟩
  · have hlt := lt_of_dec hlt
    obtain ⟨a, ha⟩ : ∃ a, m.exprs[i]? = some a := ⟨_, List.getElem?_eq_getElem hlt⟩
    refine rdI Er_len h.vx ha (j := 0) (by omega) rfl ⟨_, (l16Named_c a.k).use S1 _, fun b S2 hR => ?_⟩
    obtain ⟨hE1, hb⟩ := hR
    cases hb
    refine ⟨fun hb => ?_, fun hb => ?_⟩
    · refine rdS Er_len h.vx ha (j := 2) (by omega) rfl ⟨_, (l8Put_c a.name hr (b1 i)).use S2 _, fun y S3 hR => ?_⟩
      obtain ⟨hE2, r2, he, hr2⟩ := hR
      cases he
      refine ⟨by unfold in64; have := h.cx; omega, loopK.again (L' := mL m) (m' := m.exprs.length - (i + 1)) ⟨Nat.zero_lt_one, trivial⟩ rfl (by omega) ⟨rfl, i + 1, y, rfl, (hE.trans hE1).trans hE2, hlt, rfl, ?_⟩⟩
      have e : gU1 m (i + 1) = gU1 m i ++ [a.name] := fm_yes ha hb
      rw [e, ← set_app]
      exact hr2
    · refine ⟨by unfold in64; have := h.cx; omega, loopK.again (L' := mL m) (m' := m.exprs.length - (i + 1)) ⟨Nat.zero_lt_one, trivial⟩ rfl (by omega) ⟨rfl, i + 1, r, rfl, hE.trans hE1, hlt, rfl, ?_⟩⟩
      have e : gU1 m (i + 1) = gU1 m i := fm_no ha hb
      rw [e]
      exact hr
  have hge := ge_of_dec hge
  have hr : Vw Rq r (setOf (fm (fun e => named e.k) Er.name m.exprs)) := by
    have : gU1 m i = fm (fun e => named e.k) Er.name m.exprs := by show fm _ _ (m.exprs.take i) = _; rw [take_all hge]
    rw [← this]
    exact hr
  refine loopK.exit (L' := mL m) ⟨Nat.zero_lt_one, trivial⟩ rfl (kont.of hT hmo (nov := true) (plans := np) (f := 1000) ?_)
  rw [x36_0]
  clear hi hge
  refine ⟨[5, 3, 2, 1], iU S m 5 m.stmts.length (gU2 m), m.stmts.length, ⟨rfl, 0, r, rfl, hE, Nat.zero_le _, rfl, by simpa [gU2, fm] using hr⟩, ?_⟩
  rintro mm env S1 L1 ⟨rfl, i, r, rfl, hE, hi, rfl, hr⟩
  refine WSem.of hT hmo (nov := true) (plans := np) (f := 1000) ?_
  rw [b36_1]
  refine ⟨m.stmts.length, h.vs.len, fun hlt => ?_, fun hge => ?_⟩
  · have hlt := lt_of_dec hlt
    obtain ⟨a, ha⟩ : ∃ a, m.stmts[i]? = some a := ⟨_, List.getElem?_eq_getElem hlt⟩
    refine rdI Sm_len h.vs ha (j := 0) (by omega) rfl ⟨fun hb => ?_, fun hb => ?_⟩
    · refine rdS Sm_len h.vs ha (j := 1) (by omega) rfl ⟨_, (l8Put_c a.name hr (b2 i)).use S1 _, fun y S3 hR => ?_⟩
      obtain ⟨hE2, r2, he, hr2⟩ := hR
      cases he
      refine ⟨by unfold in64; have := h.cs; omega, loopK.again (L' := mL m) (m' := m.stmts.length - (i + 1)) ⟨Nat.zero_lt_one, trivial⟩ rfl (by omega) ⟨rfl, i + 1, y, rfl, hE.trans hE2, hlt, rfl, ?_⟩⟩
      have e : gU2 m (i + 1) = gU2 m i ++ [a.name] := by
        show _ ++ _ = (_ ++ _) ++ _
        rw [fm_yes ha (p := fun s : Sm => s.k == 3) hb, List.append_assoc]
      rw [e, ← set_app]
      exact hr2
    · refine ⟨by unfold in64; have := h.cs; omega, loopK.again (L' := mL m) (m' := m.stmts.length - (i + 1)) ⟨Nat.zero_lt_one, trivial⟩ rfl (by omega) ⟨rfl, i + 1, r, rfl, hE, hlt, rfl, ?_⟩⟩
      have e : gU2 m (i + 1) = gU2 m i := by
        show _ ++ _ = _ ++ _
        rw [fm_no ha (p := fun s : Sm => s.k == 3) hb]
      rw [e]
      exact hr
  have hge := ge_of_dec hge
  have hr : Vw Rq r (setOf (gU3 m 0)) := by
    have : gU2 m i = gU3 m 0 := by show _ ++ fm _ _ (m.stmts.take i) = _ ++ _ ++ fm _ _ (m.exps.take 0); rw [take_all hge]; simp [fm]
    rw [← this]
    exact hr
  refine loopK.exit (L' := mL m) ⟨Nat.zero_lt_one, trivial⟩ rfl (kont.of hT hmo (nov := true) (plans := np) (f := 1000) ?_)
  rw [x36_1]
  clear hi hge
  refine ⟨[6, 3, 2, 1], iU S m 6 m.exps.length (gU3 m), m.exps.length, ⟨rfl, 0, r, rfl, hE, Nat.zero_le _, rfl, hr⟩, ?_⟩
  rintro mm env S1 L1 ⟨rfl, i, r, rfl, hE, hi, rfl, hr⟩
  refine WSem.of hT hmo (nov := true) (plans := np) (f := 1000) ?_
  rw [b36_2]
  refine ⟨m.exps.length, h.ve.len, fun hlt => ?_, fun hge => ?_⟩
  · have hlt := lt_of_dec hlt
    obtain ⟨a, ha⟩ : ∃ a, m.exps[i]? = some a := ⟨_, List.getElem?_eq_getElem hlt⟩
    refine rdI Xp_len h.ve ha (j := 0) (by omega) rfl ⟨fun hb => ?_, fun hb => ?_⟩
    · refine rdS Xp_len h.ve ha (j := 2) (by omega) rfl ⟨_, (l8Put_c a.loc hr (b3 i)).use S1 _, fun y S3 hR => ?_⟩
      obtain ⟨hE2, r2, he, hr2⟩ := hR
      cases he
      refine ⟨by unfold in64; have := h.ce; omega, loopK.again (L' := mL m) (m' := m.exps.length - (i + 1)) ⟨Nat.zero_lt_one, trivial⟩ rfl (by omega) ⟨rfl, i + 1, y, rfl, hE.trans hE2, hlt, rfl, ?_⟩⟩
      have e : gU3 m (i + 1) = gU3 m i ++ [a.loc] := by
        show _ ++ _ = (_ ++ _) ++ _
        rw [fm_yes ha (p := fun s : Xp => s.k == 1) hb, List.append_assoc (_ ++ _)]
      rw [e, ← set_app]
      exact hr2
    · refine ⟨by unfold in64; have := h.ce; omega, loopK.again (L' := mL m) (m' := m.exps.length - (i + 1)) ⟨Nat.zero_lt_one, trivial⟩ rfl (by omega) ⟨rfl, i + 1, r, rfl, hE, hlt, rfl, ?_⟩⟩
      have e : gU3 m (i + 1) = gU3 m i := by
        show _ ++ _ = _ ++ _
        rw [fm_no ha (p := fun s : Xp => s.k == 1) hb]
      rw [e]
      exact hr
  have hge := ge_of_dec hge
  refine loopK.exit (L' := mL m) ⟨Nat.zero_lt_one, trivial⟩ rfl (kont.of hT hmo (nov := true) (plans := np) (f := 1000) ?_)
  rw [x36_2]
  refine ⟨rfl, hE, r, rfl, ?_⟩
  have : gU3 m i = uses m := by show _ ++ _ ++ fm _ _ (m.exps.take i) = _; rw [take_all hge]; rfl
  rw [← this]
  exact hr
end Go.Proofs.YtkdickfiifpblaaGreatDoor.D
namespace Go.Proofs.YtkdickfiifpblaaGreatDoor.D
open Go Go.Den Go.Proofs
set_option maxRecDepth 100000
variable {w0 : World}
def unused (m : Md) : List BA := fm (fun x => !memB x.loc (setOf (uses m))) Im.loc m.imps
def iUn (S : St) (m : Md) (y : AL) : Nat → KE := fun mm env S' L => L = mL m ∧ ∃ (i : Nat) (r : AL), env = [(5, .v (int i)), (4, .v (.one r)), (3, .v (.one y)), (2, .v (.one .nilsl)), (1, .loc 0 0)] ∧ Ext S S' ∧ i ≤ m.imps.length ∧ mm = m.imps.length - i ∧
  Vw Rq r (setOf (fm (fun x => !memB x.loc (setOf (uses m))) Im.loc (m.imps.take i)))
theorem uses_len {m : Md} (h : MV m) : (setOf (uses m)).length ≤ 3000 := by
  refine Nat.le_trans (setOf_len _) ?_
  have a2 := fm_len (fun e : Er => named e.k) Er.name m.exprs
  have a3 := fm_len (fun s : Sm => s.k == 3) Sm.name m.stmts
  have a4 := fm_len (fun x : Xp => x.k == 1) Xp.loc m.exps
  have := h.cx
  have := h.cs
  have := h.ce
  unfold uses
  rw [List.length_append, List.length_append]
  omega
theorem Unused_c {m : Md} (h : MV m) : CON w0 38 [m.av] (rL (setOf (unused m))) := by
  refine Con.of_fn (plans := np) hT hmo (nov := true) (fun v hv => by obtain ⟨r, rfl, hr⟩ := hv; exact vsh (fn := Tryz.f38) (by kernel_rfl) (by kernel_rfl) hr) (fun S => ?_)
  rw [v38]
  refine ⟨rfl, _, (Uses_c h).use S _, fun y S0 hR => ?_⟩
  obtain ⟨hE0, y', he, hy⟩ := hR
  cases he
  refine ⟨[5, 4, 3, 2, 1], iUn S m y, m.imps.length, ⟨rfl, 0, _, rfl, hE0.trans (Ext.born S0 _), Nat.zero_le _, rfl, .inr ⟨_, rfl⟩⟩, ?_⟩
  rintro mm env S1 L1 ⟨rfl, i, r, rfl, hE, hi, rfl, hr⟩
  refine WSem.of hT hmo (nov := true) (plans := np) (f := 1000) ?_
  rw [b38_0]
  have hci := h.ci
  refine ⟨m.imps.length, h.vi.len, fun hlt => ?_, fun hge => ?_⟩
  · have hlt := lt_of_dec hlt
    obtain ⟨a, ha⟩ : ∃ a, m.imps[i]? = some a := ⟨_, List.getElem?_eq_getElem hlt⟩
    have hul := uses_len h
    refine rdS Im_len h.vi ha (j := 2) (by omega) rfl ⟨_, (l6In_c a.loc hy (by omega)).use S1 _, fun b S2 hR => ?_⟩
    obtain ⟨hE1, hb⟩ := hR
    cases hb
    refine ⟨fun hb => ?_, fun hb => ?_⟩
    · have hl : (setOf (fm (fun x => !memB x.loc (setOf (uses m))) Im.loc (m.imps.take i))).length ≤ 900000 := by
        refine Nat.le_trans (setOf_len _) (Nat.le_trans (fm_len _ _ _) ?_)
        rw [List.length_take]
        omega
      refine rdS Im_len h.vi ha (j := 2) (by omega) rfl ⟨_, (l8Put_c a.loc hr hl).use S2 _, fun z S3 hR => ?_⟩
      obtain ⟨hE2, r2, he, hr2⟩ := hR
      cases he
      refine ⟨by unfold in64; omega, loopK.again (L' := mL m) (m' := m.imps.length - (i + 1)) ⟨Nat.zero_lt_one, trivial⟩ rfl (by omega) ⟨rfl, i + 1, z, rfl, (hE.trans hE1).trans hE2, hlt, rfl, ?_⟩⟩
      rw [fm_yes ha (p := fun x : Im => !memB x.loc (setOf (uses m))) hb, ← set_app]
      exact hr2
    · refine ⟨by unfold in64; omega, loopK.again (L' := mL m) (m' := m.imps.length - (i + 1)) ⟨Nat.zero_lt_one, trivial⟩ rfl (by omega) ⟨rfl, i + 1, r, rfl, hE.trans hE1, hlt, rfl, ?_⟩⟩
      rw [fm_no ha (p := fun x : Im => !memB x.loc (setOf (uses m))) hb]
      exact hr
  · have hge := ge_of_dec hge
    refine loopK.exit (L' := mL m) ⟨Nat.zero_lt_one, trivial⟩ rfl (kont.of hT hmo (nov := true) (plans := np) (f := 1000) ?_)
    rw [x38_0]
    refine ⟨rfl, hE, r, rfl, ?_⟩
    rw [take_all hge] at hr
    exact hr
abbrev isLF (s : Sm) : Bool := (s.k == 1 || s.k == 2) && decide (s.name ≠ dflt)
def names (m : Md) : List BA := fm isLF Sm.name m.stmts
def rRow (l : List BA) (n : Nat) (v : AV) (S : St) : Prop := ∃ r, v = .one r ∧ Row S 9 1 r l.length (l.flatMap Rq) ∧ ∀ t, r.tk = some t → n ≤ t
theorem rRow.loc {l : List BA} : ∀ (n : Nat) (v : AV) (S S' : St), TokSub S S' → rRow l n v S → rRow l n v S' := fun _ _ _ _ h ⟨r, h1, h2, h3⟩ => ⟨r, h1, h2.sub h, h3⟩
def iNa (S : St) (m : Md) : Nat → KE := fun mm env S' L => L = mL m ∧ ∃ (i : Nat) (r : AL), env = [(4, .v (int i)), (3, .v (.one r)), (2, .v (.one .nilsl)), (1, .loc 0 0)] ∧ Grew S S' r ∧ i ≤ m.stmts.length ∧ mm = m.stmts.length - i ∧
  Row S' 9 1 r (fm isLF Sm.name (m.stmts.take i)).length ((fm isLF Sm.name (m.stmts.take i)).flatMap Rq)
theorem l6Names_c {m : Md} (h : MV m) : ConR Tryz.prog (tabOf Tryz.prog) 30 [m.av] (rRow (names m)) := by
  refine ConR.of_fn (plans := np) hT hmo (nov := true) rRow.loc (fun n v S hv => by obtain ⟨r, rfl, hr, _⟩ := hv; exact vsh (fn := Tryz.f30) (by kernel_rfl) (by kernel_rfl) hr.vw) (fun w0 S => ?_)
  rw [v30]
  refine ⟨rfl, [4, 3, 2, 1], iNa S m, m.stmts.length, ⟨rfl, 0, _, rfl, Grew.born (Ext.refl S) _, Nat.zero_le _, rfl, Row.born _ _ _⟩, ?_⟩
  rintro mm env S1 L1 ⟨rfl, i, r, rfl, hG, hi, rfl, hr⟩
  refine WSem.of hT hmo (nov := true) (plans := np) (f := 1000) ?_
  rw [b30_0]
  have hcs := h.cs
  refine ⟨m.stmts.length, h.vs.len, fun hlt => ?_, fun hge => ?_⟩
  · have hlt := lt_of_dec hlt
    obtain ⟨a, ha⟩ : ∃ a, m.stmts[i]? = some a := ⟨_, List.getElem?_eq_getElem hlt⟩
    obtain ⟨tok, n, xs, g1, g2, g3, g4, g5, g6⟩ := rdA Sm_len h.vs ha (zs := [.int .i64 0, .str ⟨⟨[]⟩⟩, .int .i64 0]) rfl (H := fun ys => ys = a.cells) rfl
    refine ⟨tok, n, xs, g1, g2, g3, g4, g5, fun k s e hks => ?_⟩
    rw [g6] at hks
    cases hks
    have yes : isLF a = true → 24 = 24 ∧ ∃ r' S', dAppend2 (tabOf Tryz.prog) 24 r (.sl (some S1.toks.length) 1 [.str a.name]) (S1.born (1, 9, 1)) = some (r', S') ∧ in64 ((i : Int) + 1) ∧ loopK (iNa S m) 1 (m.stmts.length - i) (KT w0 38 [Kn.blk 0, Kn.seq (CO 30 [1, 1, 1])] (WE Tryz.f30 S.boxes.length fun v S' => Ext S S' ∧ rRow (names m) S.toks.length v S')) .normal
        [(4, .v (int ((i : Int) + 1))), (3, .v (.one r')), (2, .v (.one .nilsl)), (1, .loc 0 0)] S' [(30, m.cs), (46, a.cells)] := fun hp => by
      obtain ⟨r2, S4, g1, g2, g3, g4, g5, g6, g7⟩ := hr.pushS a.name (by have := fm_len isLF Sm.name (m.stmts.take i); rw [List.length_take] at this; omega) (1, 9, 1)
      rw [← fm_yes ha hp (f := Sm.name)] at g2
      exact ⟨rfl, r2, S4, g1, by unfold in64; omega, loopK.again (L' := mL m) (m' := m.stmts.length - (i + 1)) ⟨Nat.zero_lt_one, trivial⟩ rfl (by omega) ⟨rfl, i + 1, r2, rfl, hG.push g3 g4 g5 g6 g7, hlt, rfl, g2⟩⟩
    have no : isLF a = false → in64 ((i : Int) + 1) ∧ loopK (iNa S m) 1 (m.stmts.length - i) (KT w0 38 [Kn.blk 0, Kn.seq (CO 30 [1, 1, 1])] (WE Tryz.f30 S.boxes.length fun v S' => Ext S S' ∧ rRow (names m) S.toks.length v S')) .normal
        [(4, .v (int ((i : Int) + 1))), (3, .v (.one r)), (2, .v (.one .nilsl)), (1, .loc 0 0)] S1 [(30, m.cs), (46, a.cells)] := fun hp => by
      refine ⟨by unfold in64; omega, loopK.again (L' := mL m) (m' := m.stmts.length - (i + 1)) ⟨Nat.zero_lt_one, trivial⟩ rfl (by omega) ⟨rfl, i + 1, r, rfl, hG, hlt, rfl, ?_⟩⟩
      rw [fm_no ha hp]
      exact hr
    have dn : ∀ b, decide (a.name ≠ ByteArray.mk #[42, 100, 101, 102, 97, 117, 108, 116]) = b → decide (a.name ≠ dflt) = b := fun b h => h
    refine ⟨fun h1 => ⟨fun h2 => yes ?_, fun h2 => no ?_⟩, fun h1 => ⟨fun h3 => ⟨fun h2 => yes ?_, fun h2 => no ?_⟩, fun h3 => no ?_⟩⟩
    · show ((a.k == 1 || a.k == 2) && decide (a.name ≠ dflt)) = true
      rw [h1, dn _ h2]; rfl
    · show ((a.k == 1 || a.k == 2) && decide (a.name ≠ dflt)) = false
      rw [dn _ h2, Bool.and_false]
    · show ((a.k == 1 || a.k == 2) && decide (a.name ≠ dflt)) = true
      rw [h3, dn _ h2, Bool.or_true]; rfl
    · show ((a.k == 1 || a.k == 2) && decide (a.name ≠ dflt)) = false
      rw [dn _ h2, Bool.and_false]
    · show ((a.k == 1 || a.k == 2) && decide (a.name ≠ dflt)) = false
      rw [h1, h3]; rfl
  · have hge := ge_of_dec hge
    refine loopK.exit (L' := mL m) ⟨Nat.zero_lt_one, trivial⟩ rfl (kont.of hT hmo (nov := true) (plans := np) (f := 1000) ?_)
    rw [x30_0]
    refine ⟨rfl, hG.ext, r, rfl, ?_, hG.new⟩
    rw [take_all hge] at hr
    exact hr
def freeE (l : List BA) (e : Er) : Bool := (e.k == 2 || e.k == 3) && !memB e.name l
def freeS (l : List BA) (s : Sm) : Bool := s.k == 3 && !memB s.name l
def locals (m : Md) : List BA := m.imps.map Im.loc
def freeN (m : Md) : List BA := fm (freeE (names m ++ locals m)) Er.name m.exprs ++ fm (freeS (names m ++ locals m)) Sm.name m.stmts
def iF0 (S : St) (m : Md) (t : AL) : Nat → KE := fun mm env S' L => L = mL m ∧ ∃ (i : Nat) (r : AL), env = [(5, .v (int i)), (4, .v (.one r)), (3, .v (.one t)), (2, .v (.one .nilsl)), (1, .loc 0 0)] ∧ Grew S S' r ∧ i ≤ m.imps.length ∧ mm = m.imps.length - i ∧
  Row S' 9 1 r (names m ++ (m.imps.take i).map Im.loc).length ((names m ++ (m.imps.take i).map Im.loc).flatMap Rq)
def iF1 (S : St) (m : Md) (y : AL) (k n : Nat) (g : Nat → List BA) : Nat → KE := fun mm env S' L => L = mL m ∧ ∃ (i : Nat) (r : AL), env = [(k, .v (int i)), (4, .v (.one y)), (3, .v (.one r)), (2, .v (.one .nilsl)), (1, .loc 0 0)] ∧ Ext S S' ∧ i ≤ n ∧ mm = n - i ∧ Vw Rq r (setOf (g i))
end Go.Proofs.YtkdickfiifpblaaGreatDoor.D
namespace Go.Proofs.YtkdickfiifpblaaGreatDoor.D
open Go Go.Den Go.Proofs
set_option maxRecDepth 100000
variable {w0 : World}
theorem names_len {m : Md} (h : MV m) : (names m ++ locals m).length ≤ 2000 := by
  have := fm_len isLF Sm.name m.stmts
  have := h.cs
  have := h.ci
  unfold names locals
  rw [List.length_append, List.length_map]
  omega
def gF1 (m : Md) (i : Nat) : List BA := fm (freeE (names m ++ locals m)) Er.name (m.exprs.take i)
def gF2 (m : Md) (i : Nat) : List BA := fm (freeE (names m ++ locals m)) Er.name m.exprs ++ fm (freeS (names m ++ locals m)) Sm.name (m.stmts.take i)
theorem FreeNames_c {m : Md} (h : MV m) : CON w0 8 [m.av] (rL (setOf (freeN m))) := by
  refine Con.of_fn (plans := np) hT hmo (nov := true) (fun v hv => by obtain ⟨r, rfl, hr⟩ := hv; exact vsh (fn := Tryz.f8) (by kernel_rfl) (by kernel_rfl) hr) (fun S => ?_)
  rw [v8]
  have hci := h.ci
  have hcs := h.cs
  have hcx := h.cx
  have hnl := names_len h
  have b1 : ∀ i, (setOf (gF1 m i)).length ≤ 900000 := fun i => by
    refine Nat.le_trans (setOf_len _) (Nat.le_trans (fm_len _ _ _) ?_)
    rw [List.length_take]
    omega
  have b2 : ∀ i, (setOf (gF2 m i)).length ≤ 900000 := fun i => by
    refine Nat.le_trans (setOf_len _) ?_
    have a1 := fm_len (freeE (names m ++ locals m)) Er.name m.exprs
    have a2 := fm_len (freeS (names m ++ locals m)) Sm.name (m.stmts.take i)
    rw [List.length_take] at a2
    unfold gF2
    rw [List.length_append]
    omega
  refine ⟨rfl, _, (l6Names_c h).use _ _, fun y S0 hR => ?_⟩
  obtain ⟨hE0, y', he, hy, hn⟩ := hR
  cases he
  have hE1 : Ext S S0 := (Ext.born S _).trans hE0
  have hG0 : Grew S S0 y := ⟨hE1.1, hE1.2.tok, hE1.2.len, hE1.2.yng, fun t ht => by have := hn t ht; rw [born_len] at this; omega⟩
  refine ⟨[5, 4, 3, 2, 1], iF0 S m (.sl (some S.toks.length) 0 []), m.imps.length, ⟨rfl, 0, y, rfl, hG0, Nat.zero_le _, rfl, by simpa using hy⟩, ?_⟩
  rintro mm env S1 L1 ⟨rfl, i, r, rfl, hG, hi, rfl, hr⟩
  refine WSem.of hT hmo (nov := true) (plans := np) (f := 1000) ?_
  rw [b8_0]
  refine ⟨m.imps.length, h.vi.len, fun hlt => ?_, fun hge => ?_⟩
  · have hlt := lt_of_dec hlt
    obtain ⟨a, ha⟩ : ∃ a, m.imps[i]? = some a := ⟨_, List.getElem?_eq_getElem hlt⟩
    refine rdS Im_len h.vi ha (j := 2) (by omega) rfl ?_
    obtain ⟨r2, S4, g1, g2, g3, g4, g5, g6, g7⟩ := hr.pushS a.loc (by
      have := fm_len isLF Sm.name m.stmts
      rw [List.length_append, List.length_map, List.length_take]
      unfold names
      omega) (1, 9, 1)
    refine ⟨rfl, r2, S4, g1, by unfold in64; omega, loopK.again (L' := mL m) (m' := m.imps.length - (i + 1)) ⟨Nat.zero_lt_one, trivial⟩ rfl (by omega) ⟨rfl, i + 1, r2, rfl, hG.push g3 g4 g5 g6 g7, hlt, rfl, ?_⟩⟩
    rw [take_next ha, List.map_append, ← List.append_assoc]
    exact g2
  have hge := ge_of_dec hge
  rw [take_all hge] at hr
  have hy : Vw Rq r (names m ++ locals m) := hr.vw
  have hE := hG.ext
  refine loopK.exit (L' := mL m) ⟨Nat.zero_lt_one, trivial⟩ rfl (kont.of hT hmo (nov := true) (plans := np) (f := 1000) ?_)
  have x0 := x8_0 (realHk Tryz.prog w0 (tabOf Tryz.prog)) np S
  rw [x0]
  clear hi hge hr hG hG0 hn hE0 hE1 x0
  refine ⟨[6, 4, 3, 2, 1], iF1 S m r 6 m.exprs.length (gF1 m), m.exprs.length, ⟨rfl, 0, _, rfl, hE, Nat.zero_le _, rfl, .inr ⟨_, rfl⟩⟩, ?_⟩
  rintro mm env S2 L2 ⟨rfl, i, q, rfl, hE, hi, rfl, hq⟩
  refine WSem.of hT hmo (nov := true) (plans := np) (f := 1000) ?_
  rw [b8_1]
  refine ⟨m.exprs.length, h.vx.len, fun hlt => ?_, fun hge => ?_⟩
  · have hlt := lt_of_dec hlt
    obtain ⟨a, ha⟩ : ∃ a, m.exprs[i]? = some a := ⟨_, List.getElem?_eq_getElem hlt⟩
    obtain ⟨tok, n, xs, g1, g2, g3, g4, g5, g6⟩ := rdA Er_len h.vx ha (zs := [.int .i64 0, .int .i64 0, .str ⟨⟨[]⟩⟩, .str ⟨⟨[]⟩⟩, .int .i64 0, .int .i64 0]) rfl (H := fun ys => ys = a.cells) rfl
    refine ⟨tok, n, xs, g1, g2, g3, g4, g5, fun k k2 s s2 e e2 hks => ?_⟩
    rw [g6] at hks
    cases hks
    have no : ∀ S3, Ext S S3 → freeE (names m ++ locals m) a = false → in64 ((i : Int) + 1) ∧ loopK (iF1 S m r 6 m.exprs.length (gF1 m)) 1 (m.exprs.length - i) (KT w0 93 [Kn.blk 2, Kn.seq (CO 8 [1, 1, 1, 1, 1])] (WE Tryz.f8 S.boxes.length (E S (rL (setOf (freeN m)))))) .normal
        [(6, .v (int ((i : Int) + 1))), (4, .v (.one r)), (3, .v (.one q)), (2, .v (.one .nilsl)), (1, .loc 0 0)] S3 [(30, m.cs), (59, a.cells)] := fun S3 hE3 hp => by
      refine ⟨by unfold in64; omega, loopK.again (L' := mL m) (m' := m.exprs.length - (i + 1)) ⟨Nat.zero_lt_one, trivial⟩ rfl (by omega) ⟨rfl, i + 1, q, rfl, hE3, hlt, rfl, ?_⟩⟩
      have e : gF1 m (i + 1) = gF1 m i := fm_no ha hp
      rw [e]
      exact hq
    have go : (a.k == 2 || a.k == 3) = true → ∃ R, (realHk Tryz.prog w0 (tabOf Tryz.prog)).1 31 [.one r, str a.name] S2 [(30, m.cs), (59, a.cells)] R ∧ ∀ (b : Bool) (S1 : St), R (bool b) S1 →
        ((!b) = true → ∃ R, (realHk Tryz.prog w0 (tabOf Tryz.prog)).1 32 [.one q, str a.name] S1 [(30, m.cs), (59, a.cells)] R ∧ ∀ (x : AL) (S3 : St), R (.one x) S3 → in64 ((i : Int) + 1) ∧ loopK (iF1 S m r 6 m.exprs.length (gF1 m)) 1 (m.exprs.length - i) (KT w0 93 [Kn.blk 2, Kn.seq (CO 8 [1, 1, 1, 1, 1])] (WE Tryz.f8 S.boxes.length (E S (rL (setOf (freeN m)))))) .normal
          [(6, .v (int ((i : Int) + 1))), (4, .v (.one r)), (3, .v (.one x)), (2, .v (.one .nilsl)), (1, .loc 0 0)] S3 [(30, m.cs), (59, a.cells)]) ∧
        ((!b) = false → in64 ((i : Int) + 1) ∧ loopK (iF1 S m r 6 m.exprs.length (gF1 m)) 1 (m.exprs.length - i) (KT w0 93 [Kn.blk 2, Kn.seq (CO 8 [1, 1, 1, 1, 1])] (WE Tryz.f8 S.boxes.length (E S (rL (setOf (freeN m)))))) .normal
          [(6, .v (int ((i : Int) + 1))), (4, .v (.one r)), (3, .v (.one q)), (2, .v (.one .nilsl)), (1, .loc 0 0)] S1 [(30, m.cs), (59, a.cells)]) := fun hk => by
      refine ⟨_, (l6In_c a.name hy (by omega)).use S2 _, fun b S3 hR => ?_⟩
      obtain ⟨hE3, hb⟩ := hR
      cases hb
      refine ⟨fun hb => ⟨_, (l8Put_c a.name hq (b1 i)).use S3 _, fun x S4 hR => ?_⟩, fun hb => no S3 (hE.trans hE3) ?_⟩
      · obtain ⟨hE4, r2, he, hr2⟩ := hR
        cases he
        refine ⟨by unfold in64; omega, loopK.again (L' := mL m) (m' := m.exprs.length - (i + 1)) ⟨Nat.zero_lt_one, trivial⟩ rfl (by omega) ⟨rfl, i + 1, x, rfl, (hE.trans hE3).trans hE4, hlt, rfl, ?_⟩⟩
        have e : gF1 m (i + 1) = gF1 m i ++ [a.name] := fm_yes ha (by show (_ && _) = true; rw [hk, hb]; rfl)
        rw [e, ← set_app]
        exact hr2
      · show (_ && _) = false
        rw [hb, Bool.and_false]
    refine ⟨fun h2 => go (by rw [h2]; rfl), fun h2 => ⟨fun h3 => go (by rw [h3, Bool.or_true]), fun h3 => no S2 hE ?_⟩⟩
    show ((a.k == 2 || a.k == 3) && _) = false
    rw [h2, h3]
    rfl
  have hge := ge_of_dec hge
  have hq : Vw Rq q (setOf (gF2 m 0)) := by
    have e : gF1 m i = gF2 m 0 := by unfold gF1 gF2; rw [take_all hge]; simp [fm]
    rw [← e]
    exact hq
  refine loopK.exit (L' := mL m) ⟨Nat.zero_lt_one, trivial⟩ rfl (kont.of hT hmo (nov := true) (plans := np) (f := 1000) ?_)
  rw [x8_1]
  clear hi hge
  refine ⟨[8, 4, 3, 2, 1], iF1 S m r 8 m.stmts.length (gF2 m), m.stmts.length, ⟨rfl, 0, q, rfl, hE, Nat.zero_le _, rfl, hq⟩, ?_⟩
  rintro mm env S2 L2 ⟨rfl, i, q, rfl, hE, hi, rfl, hq⟩
  refine WSem.of hT hmo (nov := true) (plans := np) (f := 1000) ?_
  rw [b8_2]
  refine ⟨m.stmts.length, h.vs.len, fun hlt => ?_, fun hge => ?_⟩
  · have hlt := lt_of_dec hlt
    obtain ⟨a, ha⟩ : ∃ a, m.stmts[i]? = some a := ⟨_, List.getElem?_eq_getElem hlt⟩
    have no : ∀ S3, Ext S S3 → freeS (names m ++ locals m) a = false → in64 ((i : Int) + 1) ∧ loopK (iF1 S m r 8 m.stmts.length (gF2 m)) 1 (m.stmts.length - i) (KT w0 93 [Kn.blk 4, Kn.seq (CO 8 [1, 1, 1, 1, 1, 1])] (WE Tryz.f8 S.boxes.length (E S (rL (setOf (freeN m)))))) .normal
        [(8, .v (int ((i : Int) + 1))), (4, .v (.one r)), (3, .v (.one q)), (2, .v (.one .nilsl)), (1, .loc 0 0)] S3 (mL m) := fun S3 hE3 hp => by
      refine ⟨by unfold in64; omega, loopK.again (L' := mL m) (m' := m.stmts.length - (i + 1)) ⟨Nat.zero_lt_one, trivial⟩ rfl (by omega) ⟨rfl, i + 1, q, rfl, hE3, hlt, rfl, ?_⟩⟩
      have e : gF2 m (i + 1) = gF2 m i := by unfold gF2; rw [fm_no ha hp]
      rw [e]
      exact hq
    refine rdI Sm_len h.vs ha (j := 0) (by omega) rfl ⟨fun hk => ?_, fun hk => no S2 hE (by show (_ && _) = false; rw [hk]; rfl)⟩
    refine rdS Sm_len h.vs ha (j := 1) (by omega) rfl ⟨_, (l6In_c a.name hy (by omega)).use S2 _, fun b S3 hR => ?_⟩
    obtain ⟨hE3, hb⟩ := hR
    cases hb
    refine ⟨fun hb => ?_, fun hb => no S3 (hE.trans hE3) (by show (_ && _) = false; rw [hb, Bool.and_false])⟩
    refine rdS Sm_len h.vs ha (j := 1) (by omega) rfl ⟨_, (l8Put_c a.name hq (b2 i)).use S3 _, fun x S4 hR => ?_⟩
    obtain ⟨hE4, r2, he, hr2⟩ := hR
    cases he
    refine ⟨by unfold in64; omega, loopK.again (L' := mL m) (m' := m.stmts.length - (i + 1)) ⟨Nat.zero_lt_one, trivial⟩ rfl (by omega) ⟨rfl, i + 1, x, rfl, (hE.trans hE3).trans hE4, hlt, rfl, ?_⟩⟩
    have e : gF2 m (i + 1) = gF2 m i ++ [a.name] := by
      unfold gF2
      rw [fm_yes ha (p := freeS (names m ++ locals m)) (by show (_ && _) = true; rw [hk, hb]; rfl), List.append_assoc]
    rw [e, ← set_app]
    exact hr2
  have hge := ge_of_dec hge
  refine loopK.exit (L' := mL m) ⟨Nat.zero_lt_one, trivial⟩ rfl (kont.of hT hmo (nov := true) (plans := np) (f := 1000) ?_)
  rw [x8_2]
  refine ⟨rfl, hE, q, rfl, ?_⟩
  have e : gF2 m i = freeN m := by unfold gF2 freeN; rw [take_all hge]
  rw [← e]
  exact hq
theorem has_c {x : AL} {l : List BA} (s : BA) (h : Vw Rq x l) (hl : l.length ≤ 1000000) : CON w0 9 [.one x, str s] (fun v => v = bool (memB s l)) := by
  refine Con.of_fn (plans := np) hT hmo (nov := true) (fun v hv => ⟨Tryz.f9, [v], by kernel_rfl, rfl, by subst hv; kernel_rfl⟩) (fun S => ?_)
  rw [v9]
  refine ⟨rfl, [5, 4, 0, 1], iIn S x l s, l.length, ⟨rfl, Ext.refl S, 0, rfl, Nat.zero_le _, rfl, fun y hy => by simp at hy⟩, ?_⟩
  rintro m env S1 L1 ⟨rfl, hE, i, rfl, hi, rfl, hne⟩
  refine WSem.of hT hmo (nov := true) (plans := np) (f := 1000) ?_
  rw [b9_0]
  refine ⟨l.length, h.len, fun hlt => ?_, fun hge => ?_⟩
  · have hlt := lt_of_dec hlt
    obtain ⟨a, ha⟩ : ∃ a, l[i]? = some a := ⟨_, List.getElem?_eq_getElem hlt⟩
    refine rd1 h ha ?_
    refine ⟨fun he => loopK.ret (L' := []) trivial rfl (kont.ret _ ⟨rfl, hE, ?_⟩), fun hn => ⟨by unfold in64; omega, loopK.again (L' := []) (m' := l.length - (i + 1)) trivial rfl (by omega) ⟨rfl, hE, i + 1, rfl, hlt, rfl, fun y hy => ?_⟩⟩⟩
    · have he := of_decide_eq_true he
      rw [memB_iff.2 (by rw [← he]; exact List.mem_of_getElem? ha)]
      rfl
    · rw [take_next ha] at hy
      rcases List.mem_append.1 hy with hy | hy
      · exact hne y hy
      · rw [List.mem_singleton.1 hy]
        exact of_decide_eq_false hn
  · have hge := ge_of_dec hge
    refine loopK.exit (L' := []) trivial rfl (kont.of hT hmo (nov := true) (plans := np) (f := 1000) ?_)
    rw [x9_0]
    refine ⟨rfl, hE, ?_⟩
    rw [take_all hge] at hne
    cases hm : memB s l with
    | false => rfl
    | true => exact absurd rfl (hne s (memB_iff.1 hm))
end Go.Proofs.YtkdickfiifpblaaGreatDoor.D
namespace Go.Proofs.YtkdickfiifpblaaGreatDoor.D
open Go Go.Den Go.Proofs
theorem v12 : ∀ (hk : Hk) (x0_0 x0_1 x0_2 x0_3 x0_4 : AL) (S : St) (Q : AV->St->Prop),wFn (Cf.of true) hk Tryz.prog (tabOf Tryz.prog) pl12 false 12 [.agg [x0_0,x0_1,x0_2,x0_3,x0_4]] S Q=(true=true/\∃ R,hk.1 8 [.agg [x0_0,x0_1,x0_2,x0_3,x0_4]] (S.born (0,9,1)) [(30,[x0_0,x0_1,x0_2,x0_3,x0_4])] R/\∀ (x : AL) (S1 : St),R (.one x) S1->hk.2 105 (codeOf Tryz.prog 12 [1,1,1,0,1,0,0])
 [.blk 0,.seq (codeOf Tryz.prog 12 [1,1,1,1])] (wEnd (tabOf Tryz.prog) Tryz.f12 false S.boxes.length Q) [(5,.v (.one (.i 0))),(4,.v (.one x)),(15,.v (.one x)),(14,.v (.agg [x0_0,x0_1,x0_2,x0_3,x0_4])),(3,.v (.one (.sl (some S.toks.length) 0 []))),(13,.v (.one (.sl (some S.toks.length) 0 []))),(2,.v (.one .nilsl)),(1,.loc 0 0),(0,.v (.agg [x0_0,x0_1,x0_2,x0_3,x0_4]))] S1
 [(30,[x0_0,x0_1,x0_2,x0_3,x0_4])])
 := by intros; kernel_rfl
theorem b12_0 : ∀ (hk : Hk) (x : AL) (n5 : Int) (x3 xL0_0 xL0_1 xL0_2 xL0_3 xL0_4 : AL) (S : St) (K : QW),wCode (Cf.of true) hk Tryz.prog (tabOf Tryz.prog) 105 pl12 1000 (codeOf Tryz.prog 12 [1,1,1,0,1,0,0]) [] (fun e env S L => K e (restr [5,4,3,2,1] env) S L) [(5,.v (.one (.i n5))),(4,.v (.one x)),(3,.v (.one x3)),(2,.v (.one .nilsl)),(1,.loc 0 0)] S
 [(30,[xL0_0,xL0_1,xL0_2,xL0_3,xL0_4])]=∃ n,x.len?=some n/\(decide (n5 < (↑n : Int))=true->∃ tok n xs,x=.sl tok n xs/\0<=n5/\n5 < (↑n : Int)/\(∃ x,likeCells [.str k_] [x]=true/\(List.drop (n5.toNat * 1) xs)[0]?=some x)/\∀ (s : ByteArray),(List.drop (n5.toNat * 1) xs)[0]?=some (.str s)->(decide (s ≠ ByteArray.mk #[117,110,100,101,102])=true->∃ tok n xs,x=.sl tok n xs/\0<=n5/\n5 <
 (↑n : Int)/\(∃ x,likeCells [.str k_] [x]=true/\(List.drop (n5.toNat * 1) xs)[0]?=some x)/\∀ (s : ByteArray),(List.drop (n5.toNat * 1) xs)[0]?=some (.str s)->24=24/\∃ r S',dAppend2 (tabOf Tryz.prog) 24 x3 (.sl (some S.toks.length) 1 [.str s]) (S.born (1,9,1))=some (r,S')/\in64 (n5 + 1)/\K .normal [(5,.v (.one (.i (n5 + 1)))),(4,.v (.one x)),(3,.v (.one r)),(2,.v (.one
 .nilsl)),(1,.loc 0 0)] S' [(30,[xL0_0,xL0_1,xL0_2,xL0_3,xL0_4])])/\(decide (s ≠ ByteArray.mk #[117,110,100,101,102])=false->in64 (n5 + 1)/\K .normal [(5,.v (.one (.i (n5 + 1)))),(4,.v (.one x)),(3,.v (.one x3)),(2,.v (.one .nilsl)),(1,.loc 0 0)] S [(30,[xL0_0,xL0_1,xL0_2,xL0_3,xL0_4])]))/\(decide (n5 < (↑n : Int))=false->K (.exit 0) [(5,.v (.one (.i n5))),(4,.v (.one x)),(3,.v
 (.one x3)),(2,.v (.one .nilsl)),(1,.loc 0 0)] S
 [(30,[xL0_0,xL0_1,xL0_2,xL0_3,xL0_4])])
 := by intros; kernel_rfl
theorem x12_0 : ∀ (hk : Hk) (S : St) (Q : AV->St->Prop) (x : AL) (n5 : Int) (x3 xL0_0 xL0_1 xL0_2 xL0_3 xL0_4 : AL) (S_1 : St),wCode.wEx (Cf.of true) hk Tryz.prog (tabOf Tryz.prog) 105 pl12 1000 (.exit 0) [.blk 0,.seq (codeOf Tryz.prog 12 [1,1,1,1])] (wEnd (tabOf Tryz.prog) Tryz.f12 false S.boxes.length Q) [(5,.v (.one (.i n5))),(4,.v (.one x)),(3,.v (.one x3)),(2,.v (.one
 .nilsl)),(1,.loc 0 0)] S_1 [(30,[xL0_0,xL0_1,xL0_2,xL0_3,xL0_4])]=hk.2 105 (codeOf Tryz.prog 12 [1,1,1,1,1,0,1,0,0]) [.blk 2,.seq (codeOf Tryz.prog 12 [1,1,1,1,1,1])] (wEnd (tabOf Tryz.prog) Tryz.f12 false S.boxes.length Q) [(7,.v (.one (.i 0))),(6,.v (.one (.sl (some S_1.toks.length) 0 []))),(34,.v (.one (.sl (some S_1.toks.length) 0 []))),(5,.v (.one (.i n5))),(4,.v (.one
 x)),(3,.v (.one x3)),(2,.v (.one .nilsl)),(1,.loc 0 0)] (S_1.born (0,9,1))
 [(30,[xL0_0,xL0_1,xL0_2,xL0_3,xL0_4])]
 := by intros; kernel_rfl
theorem b12_1 : ∀ (hk : Hk) (x3 : AL) (n7 : Int) (x6 xL0_0 xL0_1 xL0_2 xL0_3 xL0_4 : AL) (S : St) (K : QW),wCode (Cf.of true) hk Tryz.prog (tabOf Tryz.prog) 105 pl12 1000 (codeOf Tryz.prog 12 [1,1,1,1,1,0,1,0,0]) [] (fun e env S L => K e (restr [7,6,3,2,1] env) S L) [(7,.v (.one (.i n7))),(6,.v (.one x6)),(3,.v (.one x3)),(2,.v (.one .nilsl)),(1,.loc 0 0)] S
 [(30,[xL0_0,xL0_1,xL0_2,xL0_3,xL0_4])]=∃ n,xL0_3.len?=some n/\(decide (n7 < (↑n : Int))=true->true=true/\(∃ tok n xs,xL0_3=.sl tok n xs/\0<=n7/\n7 < (↑n : Int)/\((∃ x,likeCells [.i 0] [x]=true/\(List.drop 0 (List.drop (n7.toNat * 3) xs))[0]?=some x)/\∀ (n : Int),(List.drop 0 (List.drop (n7.toNat * 3) xs))[0]?=some (.i n)->((n == 3)=true->((∃ tok n xs,xL0_3=.sl tok n
 xs/\0<=n7/\n7 < (↑n : Int)/\((∃ x,likeCells [.str k_] [x]=true/\(List.drop 1 (List.drop (n7.toNat * 3) xs))[0]?=some x)/\∀ (s : ByteArray),(List.drop 1 (List.drop (n7.toNat * 3) xs))[0]?=some (.str s)->(∃ R,hk.1 35 [.agg [xL0_0,xL0_1,xL0_2,xL0_3,xL0_4],.one (.str s)] S [(30,[xL0_0,xL0_1,xL0_2,xL0_3,xL0_4])] R/\∀ (n : Int) (S1 : St),R (.one (.i n)) S1->(decide (n ≥ 0)=true->∃
 tok n xs,xL0_3=.sl tok n xs/\0<=n7/\n7 < (↑n : Int)/\(∃ x,likeCells [AL.str (k_)] [x]=true/\(List.drop 1 (List.drop (n7.toNat * 3) xs))[0]?=some x)/\∀ (s : ByteArray),(List.drop 1 (List.drop (n7.toNat * 3) xs))[0]?=some (.str s)->∃ R,hk.1 32 [.one x6,.one (.str s)] S1 [(30,[xL0_0,xL0_1,xL0_2,xL0_3,xL0_4])] R/\∀ (x : AL) (S1 : St),R (.one x) S1->in64 (n7 + 1)/\K .normal [(7,WV.v
 (AV.one (AL.int .i64 (n7 + 1)))),(6,.v (.one x)),(3,.v (.one x3)),(2,WV.v (AV.one .nilsl)),(1,.loc 0 0)] S1 [(30,[xL0_0,xL0_1,xL0_2,xL0_3,xL0_4])])/\(decide (n ≥ 0)=false->in64 (n7 + 1)/\K .normal [(7,WV.v (.one (.i (n7 + 1)))),(6,.v (.one x6)),(3,.v (.one x3)),(2,.v (.one .nilsl)),(1,.loc 0 0)] S1 [(30,[xL0_0,xL0_1,xL0_2,xL0_3,xL0_4])]))/\True)/\True)/\True)/\(∃ tok n
 xs,xL0_3=.sl tok n xs/\0<=n7/\n7 < (↑n : Int)/\(((∃ x,likeCells [.str k_] [x]=true/\(List.drop 1 (List.drop (n7.toNat * 3) xs))[0]?=some x)/\∀ (s : ByteArray),(List.drop 1 (List.drop (n7.toNat * 3) xs))[0]?=some (.str s)->(∃ R,hk.1 35 [.agg [xL0_0,xL0_1,xL0_2,xL0_3,xL0_4],.one (.str s)] S [(30,[xL0_0,xL0_1,xL0_2,xL0_3,xL0_4])] R/\∀ (n : Int) (S1 : St),R (.one (.i n))
 S1->(decide (n ≥ 0)=true->∃ tok n xs,xL0_3=.sl tok n xs/\0<=n7/\n7 < (↑n : Int)/\(∃ x,likeCells [AL.str (k_)] [x]=true/\(List.drop 1 (List.drop (n7.toNat * 3) xs))[0]?=some x)/\∀ (s : ByteArray),(List.drop 1 (List.drop (n7.toNat * 3) xs))[0]?=some (.str s)->∃ R,hk.1 32 [.one x6,.one (.str s)] S1 [(30,[xL0_0,xL0_1,xL0_2,xL0_3,xL0_4])] R/\∀ (x : AL) (S1 : St),R (.one x) S1->in64
 (n7 + 1)/\K .normal [(7,WV.v (AV.one (AL.int .i64 (n7 + 1)))),(6,.v (.one x)),(3,.v (.one x3)),(2,WV.v (AV.one .nilsl)),(1,.loc 0 0)] S1 [(30,[xL0_0,xL0_1,xL0_2,xL0_3,xL0_4])])/\(decide (n ≥ 0)=false->in64 (n7 + 1)/\K .normal [(7,WV.v (AV.one (.i (n7 + 1)))),(6,.v (.one x6)),(3,.v (.one x3)),(2,.v (.one .nilsl)),(1,.loc 0 0)] S1
 [(30,[xL0_0,xL0_1,xL0_2,xL0_3,xL0_4])]))/\True)/\True)/\((∃ x,likeCells [.str k_] [x]=true/\(List.drop 1 (List.drop (n7.toNat * 3) xs))[0]?=some x)/\∀ (s : ByteArray),(List.drop 1 (List.drop (n7.toNat * 3) xs))[0]?=some (.str s)->((∃ R,hk.1 35 [.agg [xL0_0,xL0_1,xL0_2,xL0_3,xL0_4],.one (.str s)] S [(30,[xL0_0,xL0_1,xL0_2,xL0_3,xL0_4])] R/\∀ (n : Int) (S1 : St),R (.one (.i n))
 S1->(decide (n ≥ 0)=true->∃ tok n xs,xL0_3=.sl tok n xs/\0<=n7/\n7 < (↑n : Int)/\(∃ x,likeCells [AL.str (k_)] [x]=true/\(List.drop 1 (List.drop (n7.toNat * 3) xs))[0]?=some x)/\∀ (s : ByteArray),(List.drop 1 (List.drop (n7.toNat * 3) xs))[0]?=some (.str s)->∃ R,hk.1 32 [.one x6,.one (.str s)] S1 [(30,[xL0_0,xL0_1,xL0_2,xL0_3,xL0_4])] R/\∀ (x : AL) (S1 : St),R (.one x) S1->in64
 (n7 + 1)/\K .normal [(7,WV.v (AV.one (AL.int .i64 (n7 + 1)))),(6,WV.v (.one x)),(3,WV.v (.one x3)),(2,WV.v (AV.one .nilsl)),(1,.loc 0 0)] S1 [(30,[xL0_0,xL0_1,xL0_2,xL0_3,xL0_4])])/\(decide (n ≥ 0)=false->in64 (n7 + 1)/\K .normal [(7,WV.v (AV.one (.i (n7 + 1)))),(6,.v (.one x6)),(3,.v (.one x3)),(2,.v (.one .nilsl)),(1,.loc 0 0)] S1
 [(30,[xL0_0,xL0_1,xL0_2,xL0_3,xL0_4])]))/\True)/\True)/\True)/\True)/\((n == 3)=false->((((in64 (n7 + 1)/\K .normal [(7,.v (.one (.i (n7 + 1)))),(6,.v (.one x6)),(3,.v (.one x3)),(2,.v (.one .nilsl)),(1,.loc 0 0)] S [(30,[xL0_0,xL0_1,xL0_2,xL0_3,xL0_4])])/\True)/\True)/\True)/\((((in64 (n7 + 1)/\K .normal [(7,.v (.one (.i (n7 + 1)))),(6,.v (.one x6)),(3,.v (.one x3)),(2,.v
 (.one .nilsl)),(1,.loc 0 0)] S [(30,[xL0_0,xL0_1,xL0_2,xL0_3,xL0_4])])/\True)/\True)/\(((in64 (n7 + 1)/\K .normal [(7,.v (.one (.i (n7 + 1)))),(6,.v (.one x6)),(3,.v (.one x3)),(2,.v (.one .nilsl)),(1,.loc 0 0)] S [(30,[xL0_0,xL0_1,xL0_2,xL0_3,xL0_4])])/\True)/\True)/\True)/\True))/\True)/\True)/\(decide (n7 < (↑n : Int))=false->K (.exit 2) [(7,.v (.one (.i n7))),(6,.v (.one
 x6)),(3,.v (.one x3)),(2,.v (.one .nilsl)),(1,.loc 0 0)] S
 [(30,[xL0_0,xL0_1,xL0_2,xL0_3,xL0_4])])
 := by intros; kernel_rfl
theorem x12_1 : ∀ (hk : Hk) (S : St) (Q : AV->St->Prop) (x3 : AL) (n7 : Int) (x6 xL0_0 xL0_1 xL0_2 xL0_3 xL0_4 : AL) (S_1 : St),wCode.wEx (Cf.of true) hk Tryz.prog (tabOf Tryz.prog) 105 pl12 1000 (.exit 2) [.blk 2,.seq (codeOf Tryz.prog 12 [1,1,1,1,1,1])] (wEnd (tabOf Tryz.prog) Tryz.f12 false S.boxes.length Q) [(7,.v (.one (.i n7))),(6,.v (.one x6)),(3,.v (.one x3)),(2,.v
 (.one .nilsl)),(1,.loc 0 0)] S_1 [(30,[xL0_0,xL0_1,xL0_2,xL0_3,xL0_4])]=∃ R,hk.1 36 [.agg [xL0_0,xL0_1,xL0_2,xL0_3,xL0_4]] (S_1.born (0,9,1)) [(30,[xL0_0,xL0_1,xL0_2,xL0_3,xL0_4])] R/\∀ (x : AL) (S1 : St),R (.one x) S1->∃ R,hk.1 30 [.agg [xL0_0,xL0_1,xL0_2,xL0_3,xL0_4]] S1 [(30,[xL0_0,xL0_1,xL0_2,xL0_3,xL0_4])] R/\∀ (x_1 : AL) (S1 : St),R (.one x_1) S1->hk.2 105 (codeOf
 Tryz.prog 12 [1,1,1,1,1,1,1,1,1,0,1,0,0]) [.blk 4,.seq (codeOf Tryz.prog 12 [1,1,1,1,1,1,1,1,1,1])] (wEnd (tabOf Tryz.prog) Tryz.f12 false S.boxes.length Q) [(11,.v (.one (.i 0))),(10,.v (.one x_1)),(72,.v (.one x_1)),(71,.v (.agg [xL0_0,xL0_1,xL0_2,xL0_3,xL0_4])),(9,.v (.one x)),(70,.v (.one x)),(69,.v (.agg [xL0_0,xL0_1,xL0_2,xL0_3,xL0_4])),(8,.v (.one (.sl (some
 S_1.toks.length) 0 []))),(68,.v (.one (.sl (some S_1.toks.length) 0 []))),(7,.v (.one (.i n7))),(6,.v (.one x6)),(3,.v (.one x3)),(2,.v (.one .nilsl)),(1,.loc 0 0)] S1
 [(30,[xL0_0,xL0_1,xL0_2,xL0_3,xL0_4])]
 := by intros; kernel_rfl
theorem b12_2 : ∀ (hk : Hk) (x3 x6 x x_1 : AL) (n11 : Int) (x8 xL0_0 xL0_1 xL0_2 xL0_3 xL0_4 : AL) (S : St) (K : QW),wCode (Cf.of true) hk Tryz.prog (tabOf Tryz.prog) 105 pl12 1000 (codeOf Tryz.prog 12 [1,1,1,1,1,1,1,1,1,0,1,0,0]) [] (fun e env S L => K e (restr [11,10,9,8,6,3,2,1] env) S L) [(11,.v (.one (.i n11))),(10,.v (.one x_1)),(9,.v (.one x)),(8,.v (.one x8)),(6,.v
 (.one x6)),(3,.v (.one x3)),(2,.v (.one .nilsl)),(1,.loc 0 0)] S [(30,[xL0_0,xL0_1,xL0_2,xL0_3,xL0_4])]=∃ n,x_1.len?=some n/\(decide (n11 < (↑n : Int))=true->∃ tok n xs,x_1=.sl tok n xs/\0<=n11/\n11 < (↑n : Int)/\(∃ x,likeCells [.str k_] [x]=true/\(List.drop (n11.toNat * 1) xs)[0]?=some x)/\∀ (s : ByteArray),(List.drop (n11.toNat * 1) xs)[0]?=some (.str s)->∃ R,hk.1 31 [.one
 x,.one (.str s)] S [(30,[xL0_0,xL0_1,xL0_2,xL0_3,xL0_4])] R/\∀ (b : Bool) (S1 : St),R (.one (.bool b)) S1->((!b)=true->∃ tok n xs,x_1=.sl tok n xs/\0<=n11/\n11 < (↑n : Int)/\(∃ x,likeCells [.str k_] [x]=true/\(List.drop (n11.toNat * 1) xs)[0]?=some x)/\∀ (s : ByteArray),(List.drop (n11.toNat * 1) xs)[0]?=some (.str s)->∃ R,hk.1 32 [.one x8,.one (.str s)] S1
 [(30,[xL0_0,xL0_1,xL0_2,xL0_3,xL0_4])] R/\∀ (x_2 : AL) (S1 : St),R (.one x_2) S1->in64 (n11 + 1)/\K .normal [(11,.v (.one (.i (n11 + 1)))),(10,.v (.one x_1)),(9,.v (.one x)),(8,.v (.one x_2)),(6,.v (.one x6)),(3,.v (.one x3)),(2,.v (.one .nilsl)),(1,.loc 0 0)] S1 [(30,[xL0_0,xL0_1,xL0_2,xL0_3,xL0_4])])/\((!b)=false->in64 (n11 + 1)/\K .normal [(11,.v (.one (.i (n11 +
 1)))),(10,.v (.one x_1)),(9,.v (.one x)),(8,.v (.one x8)),(6,.v (.one x6)),(3,.v (.one x3)),(2,.v (.one .nilsl)),(1,.loc 0 0)] S1 [(30,[xL0_0,xL0_1,xL0_2,xL0_3,xL0_4])]))/\(decide (n11 < (↑n : Int))=false->K (.exit 4) [(11,.v (.one (.i n11))),(10,.v (.one x_1)),(9,.v (.one x)),(8,.v (.one x8)),(6,.v (.one x6)),(3,.v (.one x3)),(2,.v (.one .nilsl)),(1,.loc 0 0)] S
 [(30,[xL0_0,xL0_1,xL0_2,xL0_3,xL0_4])])
 := by intros; kernel_rfl
theorem x12_2 : ∀ (hk : Hk) (S : St) (Q : AV->St->Prop) (x3 x6 x x_1 : AL) (n11 : Int) (x8 xL0_0 xL0_1 xL0_2 xL0_3 xL0_4 : AL) (S_1 : St),wCode.wEx (Cf.of true) hk Tryz.prog (tabOf Tryz.prog) 105 pl12 1000 (.exit 4) [.blk 4,.seq (codeOf Tryz.prog 12 [1,1,1,1,1,1,1,1,1,1])] (wEnd (tabOf Tryz.prog) Tryz.f12 false S.boxes.length Q) [(11,.v (.one (.i n11))),(10,.v (.one x_1)),(9,.v
 (.one x)),(8,.v (.one x8)),(6,.v (.one x6)),(3,.v (.one x3)),(2,.v (.one .nilsl)),(1,.loc 0 0)] S_1 [(30,[xL0_0,xL0_1,xL0_2,xL0_3,xL0_4])]=∃ R,hk.1 38 [.agg [xL0_0,xL0_1,xL0_2,xL0_3,xL0_4]] (S_1.born (0,36,2)) [(30,[xL0_0,xL0_1,xL0_2,xL0_3,xL0_4])] R/\∀ (x : AL) (S1 : St),R (.one x) S1->∃ R,hk.1 37 [.one (.sl (some S_1.toks.length) 0 []),.one (.i 1),.one x] S1
 [(30,[xL0_0,xL0_1,xL0_2,xL0_3,xL0_4])] R/\∀ (x : AL) (S1 : St),R (.one x) S1->∃ R,hk.1 37 [.one x,.one (.i 2),.one x3] S1 [(30,[xL0_0,xL0_1,xL0_2,xL0_3,xL0_4])] R/\∀ (x : AL) (S1 : St),R (.one x) S1->∃ R,hk.1 37 [.one x,.one (.i 3),.one x6] S1 [(30,[xL0_0,xL0_1,xL0_2,xL0_3,xL0_4])] R/\∀ (x : AL) (S1 : St),R (.one x) S1->∃ R,hk.1 37 [.one x,.one (.i 4),.one x8] S1
 [(30,[xL0_0,xL0_1,xL0_2,xL0_3,xL0_4])] R/\∀ (x : AL) (S1 : St),R (.one x) S1->true=true/\Q (.one x)
 S1
 := by intros; kernel_rfl
end Go.Proofs.YtkdickfiifpblaaGreatDoor.D
namespace Go.Proofs.YtkdickfiifpblaaGreatDoor.D
open Go Go.Den Go.Proofs
set_option maxRecDepth 100000
variable {w0 : World}
structure Nt where
  k : Int
  name : BA
def Nt.cells (x : Nt) : List AL := [.int .i64 x.k, .str x.name]
theorem Nt_len : ∀ x, (Nt.cells x).length = 2 := fun _ => rfl
def nts (k : Int) (l : List BA) : List Nt := l.map fun s => ⟨k, s⟩
abbrev RN (S : St) (x : AL) (l : List Nt) : Prop := Row S 36 2 x l.length (l.flatMap Nt.cells)
theorem nts_next {k : Int} {l : List BA} {i : Nat} {a : BA} (h : l[i]? = some a) : nts k (l.take (i + 1)) = nts k (l.take i) ++ [⟨k, a⟩] := by
  rw [take_next h]
  simp [nts]
theorem _root_.Go.Den.Row.pushN {S : St} {x : AL} {l : List Nt} (a : Nt) (h : RN S x l) (hl : l.length ≤ 1000000) (y : Nat × TypeId × Nat) :
    ∃ r S', dAppend2 (tabOf Tryz.prog) 32 x (.sl (some S.toks.length) 1 [.int .i64 a.k, .str a.name]) (S.born y) = some (r, S') ∧ RN S' r (l ++ [a]) ∧ S'.boxes = S.boxes ∧ S.toks.length < S'.toks.length ∧
      (∀ u z, S.tok u = some z → x.tk ≠ some u → S'.tok u = some z) ∧ (∃ k, r.tk = some k ∧ S.toks.length ≤ k) ∧ (∀ u, u ∈ S.young → u ∈ S'.young) := by
  obtain ⟨r, S', h1, h2, h3, h4, h5, h6, h7⟩ := h.push (t := 32) T32 rfl T36 rfl (by decide) (ys := [.int .i64 a.k, .str a.name]) rfl (by unfold maxLen; omega) (by show (l.length + 1) * 24 ≤ _; omega) (some S.toks.length) y
  refine ⟨r, S', h1, ?_, h3, h4, h5, h6, h7⟩
  show Row S' 36 2 r _ _
  rw [List.length_append, List.flatMap_append]
  exact h2
theorem vshN {f : FuncId} {fn : Func} (hf : Tryz.prog.funcs[f]? = some fn) (hl : likeVs (tabOf Tryz.prog) fn.resultTypes.toList [.one .nilsl] = true) {x : AL} {S : St} {l : List Nt} (h : RN S x l) :
    ∃ fn vs, Tryz.prog.funcs[f]? = some fn ∧ AV.one x = tupOf vs ∧ likeVs (tabOf Tryz.prog) fn.resultTypes.toList vs = true := vsh hf hl h.vw
def iPn (S : St) (y : AL) (l : List BA) (k : Int) (l0 : List Nt) : Nat → KE := fun mm env S' L => L = [] ∧ ∃ (i : Nat) (r : AL), env = [(7, .v (int i)), (6, .v (.one .nilsl)), (0, .v (.one r)), (1, .v (int k)), (2, .v (.one y))] ∧ Bx S S' ∧ i ≤ l.length ∧ mm = l.length - i ∧ RN S' r (l0 ++ nts k (l.take i))
theorem l25Put_c {x y : AL} {l : List BA} (k : Int) {l0 : List Nt} (hy : Vw Rq y l) (hl : l.length ≤ 100000) (hl0 : l0.length ≤ 500000) : CONP w0 37 [.one x, int k, .one y] (fun S => RN S x l0) (fun v S => ∃ r, v = .one r ∧ RN S r (l0 ++ nts k l)) := by
  refine ConP.of_gen (plans := np) hT hmo (nov := true) (fun S S' h hp => Row.toks h hp) (fun v S S' h ⟨r, h1, h2⟩ => ⟨r, h1, Row.toks h h2⟩) (fun v S hv => by obtain ⟨r, rfl, hr⟩ := hv; exact vshN (fn := Tryz.f37) (by kernel_rfl) (by kernel_rfl) hr) (fun S hp => ?_)
  rw [v37]
  refine ⟨rfl, [7, 6, 0, 1, 2], iPn S y l k l0, l.length, ⟨rfl, 0, x, rfl, Bx.refl S, Nat.zero_le _, rfl, by simpa [nts] using hp⟩, ?_⟩
  rintro mm env S1 L1 ⟨rfl, i, r, rfl, hB, hi, rfl, hr⟩
  refine WSem.of hT hmo (nov := true) (plans := np) (f := 1000) ?_
  rw [b37_0]
  refine ⟨l.length, hy.len, fun hlt => ?_, fun hge => ?_⟩
  · have hlt := lt_of_dec hlt
    obtain ⟨a, ha⟩ : ∃ a, l[i]? = some a := ⟨_, List.getElem?_eq_getElem hlt⟩
    refine rd1 hy ha ?_
    obtain ⟨r2, S4, g1, g2, g3, g4, g5, g6, g7⟩ := hr.pushN ⟨k, a⟩ (by rw [List.length_append, nts, List.length_map, List.length_take]; omega) (2, 36, 2)
    refine ⟨rfl, r2, S4, g1, by unfold in64; omega, loopK.again (L' := []) (m' := l.length - (i + 1)) trivial rfl (by omega) ⟨rfl, i + 1, r2, rfl, hB.trans ⟨g3, Nat.le_of_lt g4, g7⟩, hlt, rfl, ?_⟩⟩
    rw [nts_next ha, ← List.append_assoc]
    exact g2
  · have hge := ge_of_dec hge
    refine loopK.exit (L' := []) trivial rfl (kont.of hT hmo (nov := true) (plans := np) (f := 1000) ?_)
    rw [x37_0]
    rw [take_all hge] at hr
    exact ⟨rfl, hB, r, rfl, hr⟩
def iIm6 (S : St) (m : Md) (s : BA) : Nat → KE := fun mm env S' L => L = mL m ∧ Ext S S' ∧ ∃ (i : Nat) (q : Int), env = [(5, .v (int i)), (4, .v (int q)), (2, .loc 0 0), (1, .v (str s))] ∧ i ≤ m.imps.length ∧ mm = m.imps.length - i ∧ ∀ y, y ∈ (m.imps.take i).map Im.loc → y ≠ s
theorem l6Imp_c {m : Md} (h : MV m) (s : BA) : CON w0 35 [m.av, str s] (fun v => ∃ n : Int, v = int n ∧ decide (n ≥ 0) = memB s (locals m)) := by
  refine Con.of_fn (plans := np) hT hmo (nov := true) (fun v hv => by obtain ⟨n, rfl, _⟩ := hv; exact ⟨Tryz.f35, [int n], by kernel_rfl, rfl, by kernel_rfl⟩) (fun S => ?_)
  rw [v35]
  have hci := h.ci
  refine ⟨rfl, [5, 4, 2, 1], iIm6 S m s, m.imps.length, ⟨rfl, Ext.refl S, 0, 0, rfl, Nat.zero_le _, rfl, fun y hy => by simp at hy⟩, ?_⟩
  rintro mm env S1 L1 ⟨rfl, hE, i, q, rfl, hi, rfl, hne⟩
  refine WSem.of hT hmo (nov := true) (plans := np) (f := 1000) ?_
  rw [b35_0]
  refine ⟨m.imps.length, h.vi.len, fun hlt => ?_, fun hge => ?_⟩
  · have hlt := lt_of_dec hlt
    obtain ⟨a, ha⟩ : ∃ a, m.imps[i]? = some a := ⟨_, List.getElem?_eq_getElem hlt⟩
    refine rdS Im_len h.vi ha (j := 2) (by omega) rfl ?_
    refine ⟨fun he => loopK.ret (L' := mL m) ⟨Nat.zero_lt_one, trivial⟩ rfl (kont.ret _ ⟨rfl, hE, i, rfl, ?_⟩), fun hn => ⟨by unfold in64; omega, loopK.again (L' := mL m) (m' := m.imps.length - (i + 1)) ⟨Nat.zero_lt_one, trivial⟩ rfl (by omega) ⟨rfl, hE, i + 1, q, rfl, hlt, rfl, fun y hy => ?_⟩⟩⟩
    · have he := of_decide_eq_true he
      rw [memB_iff.2 (by rw [← he]; exact List.mem_map_of_mem (List.mem_of_getElem? ha))]
      exact decide_eq_true (by omega)
    · rw [take_next ha, List.map_append] at hy
      rcases List.mem_append.1 hy with hy | hy
      · exact hne y hy
      · simp at hy
        rw [hy]
        exact of_decide_eq_false hn
  · have hge := ge_of_dec hge
    refine loopK.exit (L' := mL m) ⟨Nat.zero_lt_one, trivial⟩ rfl (kont.of hT hmo (nov := true) (plans := np) (f := 1000) ?_)
    rw [x35_0]
    rw [take_all hge] at hne
    refine ⟨rfl, hE, -1, rfl, ?_⟩
    cases hm : memB s (locals m) with
    | false => rfl
    | true => exact absurd rfl (hne s (memB_iff.1 hm))
end Go.Proofs.YtkdickfiifpblaaGreatDoor.D
