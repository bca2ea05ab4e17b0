import Derived.Test.YtcdibfkebojefaaCodeA
import Derived.Test.YtcdibfkebojefaaG2

